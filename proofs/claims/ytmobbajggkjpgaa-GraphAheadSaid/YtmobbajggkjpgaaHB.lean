/-
  A symbolic run of the model, proved sound, and the walk of the code: a text of its parts. Conditions: none.
-/
import Derived.Test.YtmobbajggkjpgaaHA
import Derived.Laws.Append
import Derived.IntWalk
import Derived.Conc.Own4
import Derived.AtR
set_option linter.unusedSectionVars false
set_option maxRecDepth 100000
set_option linter.unusedVariables false
set_option linter.unusedSimpArgs false
namespace Go.Proofs.Ytmobbajggkjpgaa.SX
section
variable {K:Ctx}{ρ:Env}{h:AH}{w:World}{U:Nat->Prop}
theorem wq_convert(R:Rel K ρ h w){E:Value->World->Prop}{src dst:TypeId}{x v:AV}(he:convert? K.P K.O h src dst x=.ok v){Q:Value->World->Prop}(hq:Q (v.ev ρ) w):
  wq K.P K.Ev E (convert src dst (x.ev ρ)) Q w:=by
 unfold convert? at he
 simp only[bind_ok]at he
 obtain⟨S,hS,D,hD,he⟩:=he
 have hS':=under?_ok hS
 have hD':=under?_ok hD
 unfold convert
 simp only[wq_bind,wq_underlying hS',wq_underlying hD']
 split at he
 ·rename_i k k' e
  rw[pure_ok]at he;subst he
  simp only[AV.ev,int_ev R,IE.ev]at hq
  simp only[AV.ev,Conv.intToInt]
  exact hq
 ·rw[pure_ok]at he;subst he
  cases S<;>exact hq
 ·rename_i t i n
  split at he
  ·rename_i b hb
   simp only[bind_ok]at he
   obtain⟨s,hs,he⟩:=he
   split at he
   ·rename_i hc
    rw[pure_ok]at he;subst he
    obtain⟨arr,ha,hf⟩:=R.arr hb (isMem_lt hc.1)
    obtain⟨u,hu⟩:∃u,b.cs[n]?=some u:=⟨_,List.getElem?_eq_getElem hc.1⟩
    have hlt:n<arr.size:=(Array.getElem?_eq_some_iff.1 (fits_get hf hu)).1
    simp only[AV.ev,Option.map_some,AA.ev,BR.ev,IE.ev]at hq⊢
    have e0:(Int.ofNat n).toNat=n:=rfl
    rw[e0]at hq⊢
    simp only[Conv.unsafePointer,wq_bind,wq_underlying hS',wq_underlying hD',Conv.seenAt]
    refine wq_viewAt_own ha ?_
    simp only[wq_pure,cellsIn,wq_bind,wq_shape,World.shape?,ha]
    simp only[wq_sizeOf hs]
    have h1:(decide (s=0)||(decide (n≥arr.size)&&(none:Option Nat).isNone))=false:=by
     simp[hc.2,Nat.not_le.2 hlt]
    simp only[h1,Bool.false_eq_true,if_false]
    exact hq
   ·cases he
  ·cases he
 ·cases he
theorem convert?_in(I:Ids K U h){src dst:TypeId}{x v:AV}(he:convert? K.P K.O h src dst x=.ok v)(hx:x.In U):v.In U:=by
 unfold convert? at he
 simp only[bind_ok]at he
 obtain⟨S,hS,D,hD,he⟩:=he
 split at he
 ·rw[pure_ok]at he;subst he;exact int_in I hx
 ·rw[pure_ok]at he;subst he;trivial
 ·split at he
  ·simp only[bind_ok]at he
   obtain⟨s,hs,he⟩:=he
   split at he
   ·rw[pure_ok]at he;subst he;exact hx
   ·cases he
  ·cases he
 ·cases he
theorem wq_typeAssert{E:Value->World->Prop}{x v:AV}{xt asserted:TypeId}{ok:Bool}(he:typeAssert? K.P x asserted ok=.ok v){Q:Value->World->Prop}(hq:Q (v.ev ρ) w):
  wq K.P K.Ev E (Instr.typeAssert (x.ev ρ) xt asserted ok) Q w:=by
 unfold typeAssert? at he
 simp only[bind_ok]at he
 obtain⟨D,hD,he⟩:=he
 have hU:=under?_ok hD
 have fails:∀{a b:Option TypeId} {m:String} {r:M AV},r=(if ok then(do pure (.tuple [<-zero? K.P asserted,.bool (.lit false)]))else .error "typeAssert fails")->r=.ok v->
   wq K.P K.Ev E (if ok then(do pure (.tuple #[<-zeroValue asserted,.bool false]))else runtimePanic (.typeAssertion a b asserted m):Sem Value) Q w:=by
  intro a b m r e hr
  subst e
  split at hr
  ·rename_i hok
   simp only[bind_ok,pure_ok]at hr
   obtain⟨z,hz,rfl⟩:=hr
   simp only[if_pos hok,wq_bind,wq_zeroValue (ρ:=ρ) hz,wq_pure]
   simpa[AV.ev,AV.evs,BE.ev] using hq
  ·cases hr
 have holds:∀{u:AV} {r:M AV},r=pure (if ok then .tuple [u,.bool (.lit true)]else u)->r=.ok v->Q (if ok then .tuple #[u.ev ρ,.bool true]else u.ev ρ) w:=by
  intro u r e hr
  subst e
  rw[pure_ok]at hr;subst hr
  split at hq
  ·rename_i hok;simpa[AV.ev,AV.evs,BE.ev,hok] using hq
  ·rename_i hok;simpa[hok] using hq
 simp only[Instr.typeAssert,wq_bind,wq_underlying hU]
 split at he
 ·simp only[AV.ev];exact fails rfl he
 ·rename_i want t u
  simp only[AV.ev]
  split at he
  ·rename_i i hi
   simp only[wq_bind,wq_typeInfo hi]
   split at he
   ·rename_i hm;rw[missing_none hm];exact holds rfl he
   ·rename_i hm
    obtain⟨m,hm'⟩:=missing_some hm
    rw[hm'];exact fails rfl he
  ·cases he
 ·rename_i hni
  simp only[AV.ev]
  cases D<;>first|exact absurd rfl (hni _)|exact fails rfl he
 ·rename_i t u hni
  simp only[AV.ev]
  split at he
  ·rename_i ht
   cases D<;>first|exact absurd rfl (hni _)|(simp only[wq_ite];rw[if_pos ht];exact holds rfl he)
  ·rename_i ht
   cases D<;>first|exact absurd rfl (hni _)|(simp only[if_neg ht];exact fails rfl he)
 ·cases he
theorem typeAssert?_in{P:Program}{x v:AV}{asserted:TypeId}{ok:Bool}(he:typeAssert? P x asserted ok=.ok v)(hx:x.In U):v.In U:=by
 unfold typeAssert? at he
 simp only[bind_ok]at he
 obtain⟨D,hD,he⟩:=he
 have fails:∀{r:M AV},r=(if ok then(do pure (.tuple [<-zero? P asserted,.bool (.lit false)]))else .error "typeAssert fails")->r=.ok v->v.In U:=by
  intro r e hr
  subst e
  split at hr
  ·simp only[bind_ok,pure_ok]at hr
   obtain⟨z,hz,rfl⟩:=hr
   exact⟨zero?_in hz,trivial,trivial⟩
  ·cases hr
 have holds:∀{u:AV} {r:M AV},u.In U->r=pure (if ok then .tuple [u,.bool (.lit true)]else u)->r=.ok v->v.In U:=by
  intro u r hu e hr
  subst e
  rw[pure_ok]at hr;subst hr
  split
  ·exact⟨hu,trivial,trivial⟩
  ·exact hu
 split at he
 ·exact fails rfl he
 ·split at he
  ·split at he
   ·exact holds hx rfl he
   ·exact fails rfl he
  ·cases he
 ·exact fails rfl he
 ·split at he
  ·refine holds ?_ rfl he
   exact hx
  ·exact fails rfl he
 ·cases he
theorem setAt_in{l vs:List AV}{off:Nat}(hl:AV.Ins U l)(hv:AV.Ins U vs):AV.Ins U (setAt l off vs):=by
 induction vs generalizing l off with
 |nil=>exact hl
 |cons v vs ih=>
  refine ih (Ins_iff.2 fun a ha=>?_) hv.2
  rcases List.mem_or_eq_of_mem_set ha with h'|rfl
  ·exact Ins_iff.1 hl _ h'
  ·exact hv.1
theorem foldl_set(ρ:Env):∀(vs l:List AV) (off k:Nat),((AV.evs ρ vs).zipIdx k).foldl (fun(cs:Array Value) (x:Value×Nat)=>cs.setIfInBounds (off+x.2) x.1) (AV.evs ρ l).toArray=(AV.evs ρ (setAt l (off+k) vs)).toArray
 |[],l,off,k=>rfl
 |v::vs,l,off,k=>by
  simp only[AV.evs,List.zipIdx_cons,List.foldl_cons,setAt]
  have:(AV.evs ρ l).toArray.setIfInBounds (off+k) (v.ev ρ)=(AV.evs ρ (l.set (off+k) v)).toArray:=by
   rw[evs_set];simp
  rw[this]
  exact foldl_set ρ vs (l.set (off+k) v) off (k+1)
theorem fill?_sound{place:Nat->Option (Nat×Nat)}:∀{parts:List (Nat×AV)} {cells r:List AV},fill? place cells parts=.ok r->
  Instr.fill place (AV.evs ρ cells).toArray (parts.map fun p=>(p.1,p.2.ev ρ))=some (AV.evs ρ r).toArray:=by
 intro parts
 induction parts with
 |nil=>intro cells r hf;simp[fill?]at hf;subst hf;rfl
 |cons p parts ih=>
  obtain⟨i,v⟩:=p
  intro cells r hf
  simp only[fill?]at hf
  split at hf
  ·cases hf
  ·rename_i off size hp
   split at hf
   ·rename_i cs hcs
    split at hf
    ·rename_i hc
     simp only[List.map_cons,Instr.fill,hp]
     rw[cells?_ev hcs ρ]
     have e1:(AV.evs ρ cs).toArray.size=size:=by simp[evs_length,hc.1]
     have e2:¬off+(AV.evs ρ cs).toArray.size>(AV.evs ρ cells).toArray.size:=by simp[evs_length];exact hc.2
     rw[if_neg (by simp only[Bool.or_eq_true,decide_eq_true_eq,not_or];exact⟨by simpa using e1,e2⟩)]
     have e3:(AV.evs ρ cs).toArray.zipIdx.foldl (fun(cs:Array Value) (x:Value×Nat)=>cs.setIfInBounds (off+x.2) x.1) (AV.evs ρ cells).toArray=(AV.evs ρ (setAt cells off cs)).toArray:=by
      rw[<-Array.foldl_toList,Array.toList_zipIdx]
      exact foldl_set ρ cs cells off 0
     rw[<-ih hf]
     congr 1
    ·cases hf
   ·cases hf
theorem fill?_in{place:Nat->Option (Nat×Nat)}:∀{parts:List (Nat×AV)} {cells r:List AV},fill? place cells parts=.ok r->AV.Ins U cells->(∀p∈parts,p.2.In U)->AV.Ins U r:=by
 intro parts
 induction parts with
 |nil=>intro cells r hf hc _;simp[fill?]at hf;subst hf;exact hc
 |cons p parts ih=>
  obtain⟨i,v⟩:=p
  intro cells r hf hc hp
  simp only[fill?]at hf
  split at hf
  ·cases hf
  ·split at hf
   ·rename_i cs hcs
    split at hf
    ·exact ih hf (setAt_in hc (cells?_in hcs (hp (i,v) (by simp)))) fun p hp'=>hp p (List.mem_cons_of_mem _ hp')
    ·cases hf
   ·cases hf
theorem mapM_sizes{P:Program}{Ev:Event->Prop}{E:Value->World->Prop}:∀{fs:List Field} {places:List (Nat×Nat)},(fs.mapM fun f=>(do pure (f.offset,<-sizeOf? P f.type):M (Nat×Nat)))=.ok places->
  ∀{Q:List (Nat×Nat)->World->Prop} {w:World},Q places w->wq P Ev E (fs.mapM fun f=>(do pure (f.offset,<-sizeOf f.type):Sem (Nat×Nat))) Q w:=by
 intro fs
 induction fs with
 |nil=>intro places hm Q w hq;simp[pure_ok]at hm;subst hm;simpa using hq
 |cons f fs ih=>
  intro places hm Q w hq
  simp only[List.mapM_cons,bind_ok,pure_ok]at hm
  obtain⟨p,⟨n,hn,rfl⟩,l,hl,rfl⟩:=hm
  simp only[List.mapM_cons,wq_bind,wq_sizeOf hn,wq_pure]
  exact ih hl (by simpa using hq)
theorem wq_build{E:Value->World->Prop}{t:TypeId}{parts:List (Nat×AV)}{v:AV}(he:build? K.P t parts=.ok v){Q:Value->World->Prop}(hq:Q (v.ev ρ) w):
  wq K.P K.Ev E (Instr.build t (parts.map fun p=>(p.1,p.2.ev ρ)).toArray) Q w:=by
 unfold build? at he
 simp only[bind_ok]at he
 obtain⟨z,hz,cs,hcs,D,hD,he⟩:=he
 have hc:=cells?_ev hcs ρ
 simp only[Instr.build,wq_bind,wq_zeroValue (ρ:=ρ) hz,wq_underlying (under?_ok hD),hc]
 split at he
 ·rename_i fs
  simp only[bind_ok,pure_ok]at he
  obtain⟨places,hp,r,hr,rfl⟩:=he
  have:(fs.mapM fun f=>(do pure (f.offset,<-sizeOf f.type):Sem (Nat×Nat)))=List.toArray<$>(fs.toList.mapM fun f=>(do pure (f.offset,<-sizeOf f.type):Sem (Nat×Nat))):=by
   rw[Array.mapM_eq_mapM_toList]
  simp only[wq_bind]
  rw[this,wq_map]
  refine mapM_sizes hp ?_
  have e:=fill?_sound (ρ:=ρ) hr
  have:(places.toArray[·]?:Nat->Option (Nat×Nat))=(places[·]?):=by funext i;simp
  simp only[this,List.toList_toArray]
  rw[e]
  exact hq
 ·rename_i n elem
  simp only[bind_ok,pure_ok]at he
  obtain⟨s,hs,r,hr,rfl⟩:=he
  simp only[wq_bind,wq_sizeOf hs]
  have e:=fill?_sound (ρ:=ρ) hr
  rw[e]
  exact hq
 ·cases he
theorem build?_in{P:Program}{t:TypeId}{parts:List (Nat×AV)}{v:AV}(he:build? P t parts=.ok v)(hp:∀p∈parts,p.2.In U):v.In U:=by
 unfold build? at he
 simp only[bind_ok]at he
 obtain⟨z,hz,cs,hcs,D,hD,he⟩:=he
 have hc:AV.Ins U cs:=cells?_in hcs (zero?_in hz)
 split at he
 ·simp only[bind_ok,pure_ok]at he
  obtain⟨places,_,r,hr,rfl⟩:=he
  exact fill?_in hr hc hp
 ·simp only[bind_ok,pure_ok]at he
  obtain⟨s,hs,r,hr,rfl⟩:=he
  exact fill?_in hr hc hp
 ·cases he
end
structure HOk(K:Ctx)(U:Nat->Prop)(ρ:Env)(h:AH)(w:World)(s:Sem Value)(v:AV)(h':AH):Prop where
 mem:v.In (plus U h.nb h'.nb)
 grows:Grows K U h h'
 run:∀{E:Value->World->Prop} {Q:Value->World->Prop},(∀x w',After K U ρ w h' (fun ρ'=>x=v.ev ρ') w'->Q x w')->wq K.P K.Ev E s Q w
section
variable {K:Ctx}{ρ:Env}{h:AH}{w:World}{U:Nat->Prop}
theorem HOk.pure(R:Rel K ρ h w)(I:Ids K U h){s:Sem Value}{v:AV}(hi:v.In U)(hw:∀{E Q:Value->World->Prop},Q (v.ev ρ) w->wq K.P K.Ev E s Q w):HOk K U ρ h w s v h:=
 ⟨AV.In.mono plus_sub _ hi,Grows.refl I,fun hq=>hw (hq _ _ (After.same R rfl))⟩
theorem wq_newVar_of{E:Value->World->Prop}{t:TypeId}{v:Value}{cs:Array Value}(hc:v.cells=cs){Q:Addr->World->Prop}(hq:Q ⟨w.heap.size,0,none⟩ {w with heap:=w.heap.push (.cells cs t (0,0))}):wq K.P K.Ev E (newVar t v) Q w:=by
 simp only[newVar,newRow,wq_bind,wq_newObj,hc]
 exact hq
theorem alloc_ok(R:Rel K ρ h w)(I:Ids K U h){elem:TypeId}{z v:AV}{cs:List AV}{h':AH}(hz:zero? K.P elem=.ok z)(hc:z.cells?=.ok cs)(ha:alloc? h (.cells cs elem)=.ok (v,h')):
  HOk K U ρ h w (Instr.alloc elem true (.tuple #[])) v h':=by
 obtain⟨_,h1,h2,h3⟩:=alloc?_sound R I ha (cells?_in hc (zero?_in hz))
 refine⟨h1,h2,fun{E Q} hq=>?_⟩
 simp only[Instr.alloc,wq_bind,wq_zeroValue (ρ:=ρ) hz]
 refine wq_newVar_of (cells?_ev hc ρ) ?_
 obtain⟨ρ',a1,a2,a3,a4⟩:=h3 (AV.evs ρ cs).toArray (by simp[ABlk.fits])
 exact hq _ _ ⟨ρ',a1,a2,a3,a4.symm⟩
theorem box_ok(R:Rel K ρ h w)(I:Ids K U h){elem:TypeId}{x v:AV}{cs:List AV}{h':AH}(hx:x.In U)(hc:x.cells?=.ok cs)(ha:alloc? h (.cells cs elem)=.ok (v,h')):
  HOk K U ρ h w (Instr.box elem (x.ev ρ)) v h':=by
 obtain⟨_,h1,h2,h3⟩:=alloc?_sound R I ha (cells?_in hc hx)
 refine⟨h1,h2,fun{E Q} hq=>?_⟩
 simp only[Instr.box,wq_bind]
 refine wq_newVar_of (cells?_ev hc ρ) ?_
 obtain⟨ρ',a1,a2,a3,a4⟩:=h3 (AV.evs ρ cs).toArray (by simp[ABlk.fits])
 exact hq _ _ ⟨ρ',a1,a2,a3,a4.symm⟩
theorem repl_in{l:List AV}(hl:AV.Ins U l):∀n,AV.Ins U (repl n l)
 |0=>trivial
 |n+1=>Ins_iff.2 fun a ha=>by
  simp only[repl,List.mem_append]at ha
  rcases ha with ha|ha
  ·exact Ins_iff.1 hl _ ha
  ·exact Ins_iff.1 (repl_in hl n) _ ha
theorem range_mod(l:List Value)(hl:0<l.length):∀n:Nat,(List.range (n*l.length)).map (fun i=>l.toArray[i % l.length]!)=(List.replicate n l).flatten
 |0=>by simp
 |n+1=>by
  have e:(n+1)*l.length=l.length+n*l.length:=by rw[Nat.succ_mul,Nat.add_comm]
  rw[e,List.range_add,List.map_append,List.map_map,List.replicate_succ,List.flatten_cons]
  congr 1
  ·refine List.ext_getElem (by simp) fun i h1 h2=>?_
   simp only[List.length_map,List.length_range]at h1
   simp[Nat.mod_eq_of_lt h1,List.getElem?_eq_getElem h1]
  ·rw[<-range_mod l hl n]
   refine List.map_congr_left fun i _=>?_
   simp
theorem repl_ev(ρ:Env):∀(n:Nat) (l:List AV),AV.evs ρ (repl n l)=(List.replicate n (AV.evs ρ l)).flatten
 |0,l=>by simp[repl,AV.evs]
 |n+1,l=>by simp[repl,evs_append,repl_ev ρ n l,List.replicate_succ]
theorem zeros_arr(ρ:Env){z:AV}{zc:List AV}{size n:Nat}(hc:z.cells?=.ok zc)(hs:zc.length=size)(h0:0<size):
  (Array.range (n*size)).map (fun i=>(z.ev ρ).cells[i % (z.ev ρ).cells.size]!)=(AV.evs ρ (repl n zc)).toArray:=by
 rw[cells?_ev hc ρ]
 have hl:(AV.evs ρ zc).length=size:=by rw[evs_length,hs]
 have h1:(AV.evs ρ zc).toArray.size=size:=by simp[hl]
 rw[h1,repl_ev]
 have:=range_mod (AV.evs ρ zc) (by rw[hl];exact h0) n
 rw[hl]at this
 rw[<-this]
 apply Array.toList_inj.1
 simp[Array.toList_range]
theorem zeros?_wq{α:Type}{E:Value->World->Prop}{elem:TypeId}{size n:Nat}{l:List AV}(hz:zeros? K.P elem size n=.ok l){kk:Array Value->Sem α}{Q:α->World->Prop}
 (hq:∀zero:Array Value,(Array.range (n*size)).map (zero[· % zero.size]!)=(AV.evs ρ l).toArray->wq K.P K.Ev E (kk zero) Q w):
  wq K.P K.Ev E (if n*size=0 then(do
   let zero<-Pure.pure #[]
   kk zero)else(do
   let z<-zeroValue elem
   let zero<-Pure.pure z.cells
   kk zero)) Q w:=by
 unfold zeros? at hz
 split at hz
 ·rename_i h0
  cases hz
  rw[if_pos h0]
  exact hq _ (by rw[h0];simp[AV.evs,Array.range])
 ·rename_i h0
  simp only[bind_ok]at hz
  obtain⟨z,hz,zc,hc,hz2⟩:=hz
  split at hz2
  ·rename_i hs
   rw[pure_ok]at hz2;subst hz2
   rw[if_neg h0]
   simp only[wq_bind,wq_zeroValue (ρ:=ρ) hz,wq_pure]
   exact hq _ (zeros_arr ρ hc hs (Nat.pos_of_ne_zero fun e=>h0 (by rw[e];simp)))
  ·cases hz2
theorem zeros?_in{P:Program}{elem:TypeId}{size n:Nat}{l:List AV}(hz:zeros? P elem size n=.ok l):AV.Ins U l:=by
 unfold zeros? at hz
 split at hz
 ·cases hz;trivial
 ·simp only[bind_ok]at hz
  obtain⟨z,hz,zc,hc,hz2⟩:=hz
  split at hz2
  ·rw[pure_ok]at hz2;subst hz2
   exact repl_in (cells?_in hc (zero?_in hz)) _
  ·cases hz2
theorem bytesOf?_ok{P:Program}{t:TypeId}{n:Nat}(h:bytesOf? P t=.ok n):∃i,P.info? t=some i∧i.bytes=n:=by
 unfold bytesOf? at h
 split at h
 ·rename_i i hi;exact⟨i,hi,by simpa using h⟩
 ·cases h
theorem buildSlice_ok(R:Rel K ρ h w)(I:Ids K U h){t:TypeId}{len:Nat}{parts:List (Nat×AV)}{v:AV}{h':AH}(hp:∀p∈parts,p.2.In U)(he:buildSlice? K.P h t len parts=.ok (v,h')):
  HOk K U ρ h w (Instr.buildSlice t len (parts.map fun p=>(p.1,p.2.ev ρ)).toArray) v h':=by
 unfold buildSlice? at he
 simp only[bind_ok]at he
 obtain⟨D,hD,he⟩:=he
 split at he
 ·rename_i elem
  simp only[bind_ok]at he
  obtain⟨size,hs,he⟩:=he
  split at he
  ·cases he
  ·rename_i hlen
   simp only[bind_ok]at he
   obtain⟨z,hz,cells,hc,ha⟩:=he
   have hin:AV.Ins U cells:=fill?_in hc (zeros?_in hz) hp
   obtain⟨h1,h2,h3⟩:=allocSlice?_sound R I ha hin trivial trivial
   refine⟨h1,h2,fun{E Q} hq=>?_⟩
   simp only[Instr.buildSlice,wq_bind,wq_underlying (under?_ok hD),wq_sizeOf hs]
   rw[if_neg (by simp only[gt_iff_lt,Nat.not_lt];omega)]
   refine zeros?_wq (ρ:=ρ) hz fun zero hzero=>?_
   rw[hzero,fill?_sound (ρ:=ρ) hc]
   simp only[newRow,wq_bind,wq_newObj,wq_pure]
   obtain⟨ρ',a1,a2,a3,a4⟩:=h3 (AV.evs ρ cells).toArray (by simp[ABlk.fits])
   exact hq _ _ ⟨ρ',a1,a2,a3,a4.symm⟩
 ·cases he
theorem makeSlice_ok(G:K.Good)(R:Rel K ρ h w)(I:Ids K U h){t:TypeId}{l c v:AV}{h':AH}(he:makeSlice? K.P h t l c=.ok (v,h')):
  HOk K U ρ h w (Instr.makeSlice t (l.ev ρ) (c.ev ρ)) v h':=by
 unfold makeSlice? at he
 simp only[bind_ok]at he
 obtain⟨D,hD,he⟩:=he
 split at he
 ·rename_i elem
  split at he
  ·rename_i k1 l k2 c
   simp only[bind_ok]at he
   obtain⟨l',hl,c',hc,size,hs,bytes,hb,he⟩:=he
   obtain rfl:=litNat?_ok hl
   obtain rfl:=litNat?_ok hc
   split at he
   ·rename_i hle
    obtain⟨hlc,hc2,hb2⟩:=hle
    simp only[bind_ok]at he
    obtain⟨cells,hz,ha⟩:=he
    obtain⟨i,hi,hib⟩:=bytesOf?_ok hb
    obtain⟨h1,h2,h3⟩:=allocSlice?_sound R I ha (zeros?_in hz) trivial trivial
    refine⟨h1,h2,fun{E Q} hq=>?_⟩
    have wl:IntKind.i64.wrap (Int.ofNat l')=l':=IntWalk.i64_in _ ⟨by have:(0:Int)≤Int.ofNat l':=Int.natCast_nonneg _;omega,by have:Int.ofNat l'≤(1048576:Nat):=Int.ofNat_le.2 (Nat.le_trans hlc hc2);omega⟩
    have wc:IntKind.i64.wrap (Int.ofNat c')=c':=IntWalk.i64_in _ ⟨by have:(0:Int)≤Int.ofNat c':=Int.natCast_nonneg _;omega,by have:Int.ofNat c'≤(1048576:Nat):=Int.ofNat_le.2 hc2;omega⟩
    have hmul:bytes*c'≤68719476736:=Nat.mul_le_mul hb2 hc2
    have hmulI:((i.bytes:Int)*(c':Int))≤68719476736:=by rw[hib,<-Int.natCast_mul];exact Int.ofNat_le.2 hmul
    simp only[Instr.makeSlice,AV.ev,IE.ev,asInt,asIntOf,wq_bind,wq_underlying (under?_ok hD),wq_pure,wq_typeInfo hi,wl,wc]
    have hcond:(((decide ((c':Int)<0)||decide ((i.bytes:Int)*(c':Int)>2 ^ 48))||decide ((l':Int)<0))||decide ((l':Int)>(c':Int)))=false:=by
     have hp:(2:Int) ^ 48=281474976710656:=by decide
     rw[hp]
     simp only[Bool.or_eq_false_iff,decide_eq_false_iff_not]
     refine⟨⟨⟨by omega,by omega⟩,by omega⟩,by omega⟩
    rw[if_neg (by rw[hcond];simp)]
    have ask:∀{Q':Unit->World->Prop},Q' () w->wq K.P K.Ev E (askRoom (((c':Int)).toNat*i.bytes)) Q' w:=by
     intro Q' hq'
     unfold askRoom
     simp only[wq_ite,wq_mark,wq_pure]
     split
     ·exact⟨G.noRoom,hq'⟩
     ·exact hq'
    simp only[wq_bind,wq_pure]
    refine ask ?_
    simp only[wq_sizeOf hs,Int.toNat_natCast]
    refine zeros?_wq (ρ:=ρ) hz fun zero hzero=>?_
    rw[hzero]
    simp only[newRow,wq_bind,wq_newObj,wq_pure]
    obtain⟨ρ',a1,a2,a3,a4⟩:=h3 (AV.evs ρ cells).toArray (by simp[ABlk.fits])
    exact hq _ _ ⟨ρ',a1,a2,a3,a4.symm⟩
   ·cases he
  ·cases he
 ·cases he
theorem makeRow_ok(G:K.Good)(R:Rel K ρ h w)(I:Ids K U h){t:TypeId}{l c v:AV}{h':AH}(hcU:c.In U)(he:makeRow? K.P K.O h t l c=.ok (v,h')):
  HOk K U ρ h w (Instr.makeSlice t (l.ev ρ) (c.ev ρ)) v h':=by
 unfold makeRow? at he
 simp only[bind_ok]at he
 obtain⟨D,hD,he⟩:=he
 split at he
 ·rename_i elem
  split at he
  ·rename_i k1 l k2 c
   simp only[bind_ok]at he
   obtain⟨z,hz,size,hs,bytes,hb,neg,hneg,big,hbig,he⟩:=he
   split at he
   ·rename_i hle
    obtain⟨hlc,hn,hg,hb2⟩:=hle
    subst hn;subst hg
    obtain rfl:=IE.eqb_eq hlc
    obtain⟨i,hi,hib⟩:=bytesOf?_ok hb
    obtain⟨h1,h2,h3⟩:=allocSlice?_sound R I he (b:=.row [] elem l) ⟨trivial,hcU⟩ hcU hcU
    refine⟨h1,h2,fun{E Q} hq=>?_⟩
    have c0:¬l.ev ρ<0:=dec_neg R hneg (by simp)
    have c1':¬l.ev ρ>4294967296:=by
     unfold bigB at hbig
     split at hbig
     ·rename_i b hb1
      cases hbig
      have c1:decide (l.ev ρ>1048576)=false:=dec_ev R hb1
      have:=of_decide_eq_false c1
      omega
     ·have c1:decide (l.ev ρ>4294967296)=false:=dec_ev R hbig
      exact of_decide_eq_false c1
    generalize hL:l.ev ρ=n at c0 c1'
    have wl:IntKind.i64.wrap n=n:=IntWalk.i64_in _ ⟨by omega,by omega⟩
    have hmulI:((i.bytes:Int)*n)≤65536*4294967296:=Int.mul_le_mul (by rw[hib];exact Int.ofNat_le.2 hb2) (by omega) (by omega) (by decide)
    simp only[Instr.makeSlice,AV.ev,asInt,asIntOf,wq_bind,wq_underlying (under?_ok hD),wq_pure,wq_typeInfo hi,hL,wl]
    have hcond:(((decide (n<0)||decide ((i.bytes:Int)*n>2 ^ 48))||decide (n<0))||decide (n>n))=false:=by
     have hp:(2:Int) ^ 48=281474976710656:=by decide
     rw[hp]
     simp only[Bool.or_eq_false_iff,decide_eq_false_iff_not]
     refine⟨⟨⟨c0,by omega⟩,c0⟩,by omega⟩
    rw[if_neg (by rw[hcond];simp)]
    have ask:∀{Q':Unit->World->Prop},Q' () w->wq K.P K.Ev E (askRoom (n.toNat*i.bytes)) Q' w:=by
     intro Q' hq'
     unfold askRoom
     simp only[wq_ite,wq_mark,wq_pure]
     split
     ·exact⟨G.noRoom,hq'⟩
     ·exact hq'
    simp only[wq_bind,wq_pure]
    refine ask ?_
    simp only[wq_sizeOf hs]
    have fin:∀zero:Array Value,wq K.P K.Ev E (do
      let a<-newRow elem ((Array.range (n.toNat*size)).map (zero[· % zero.size]!))
      pure (.slice (some a) n.toNat n.toNat)) Q w:=by
     intro zero
     simp only[newRow,wq_bind,wq_newObj,wq_pure]
     obtain⟨ρ',a1,a2,a3,a4⟩:=h3 ((Array.range (n.toNat*size)).map (zero[· % zero.size]!)) (by
      obtain⟨i',hi',hi2⟩:=sizeOf?_ok hs
      refine⟨_,i',(List.nil_append _).symm,hi',?_⟩
      rw[hL,hi2];simp)
     rw[hL]at a4
     exact hq _ _ ⟨ρ',a1,a2,a3,a4.symm⟩
    by_cases h0:n.toNat*size=0
    ·rw[if_pos h0]
     exact fin #[]
    ·rw[if_neg h0]
     simp only[wq_bind,wq_zeroValue (ρ:=ρ) hz,wq_pure]
     exact fin _
   ·cases he
  ·cases he
 ·cases he
theorem makeSliceS_ok(G:K.Good)(R:Rel K ρ h w)(I:Ids K U h){t:TypeId}{l c v:AV}{h':AH}(hcU:c.In U)(he:makeSliceS? K.P K.O h t l c=.ok (v,h')):
  HOk K U ρ h w (Instr.makeSlice t (l.ev ρ) (c.ev ρ)) v h':=by
 unfold makeSliceS? at he
 split at he
 ·exact makeSlice_ok G R I he
 ·exact makeRow_ok G R I hcU he
end
section
variable {K:Ctx}{ρ:Env}{h:AH}{w:World}{U:Nat->Prop}
theorem wq_storeCells_arr(G:K.Good){E:Value->World->Prop}{b:Nat}(ho:K.own b){e:TypeId}:∀{l:List Value} {off j:Nat} {arr:Array Value} {w:World},(∀n,off+j≤n->¬K.still b n)->w.heap[b]?=some (.cells arr e (0,0))->off+j+l.length≤arr.size->(∀v∈l,v.oneCell'=true)->
  ∀{Q:Unit->World->Prop},(∀w' (arr':Array Value),w'.heap[b]?=some (.cells arr' e (0,0))->(∀n,n≠b->w'.heap[n]?=w.heap[n]?)->w'.heap.size=w.heap.size->w'.tape=w.tape->w'.os=w.os->w'.output=w.output->
   arr'.size=arr.size->(∀n,n<off+j->arr'[n]?=arr[n]?)->(∀n,n<l.length->arr'[off+j+n]?=l[n]?)->Q () w')->wq K.P K.Ev E (storeCells ⟨b,off,none⟩ l j) Q w:=by
 intro l
 induction l with
 |nil=>intro off j arr w hns hb hle _ Q hq;exact hq w arr hb (fun _ _=>rfl) rfl rfl rfl rfl rfl (fun _ _=>rfl) (fun n hn=>by simp at hn)
 |cons v l ih=>
  intro off j arr w hns hb hle hone Q hq
  simp only[List.length_cons]at hle
  simp only[storeCells,wq_bind]
  rw[wq_store]
  have ha:(⟨b,off,none⟩:Addr).add j=⟨b,off+j,none⟩:=by unfold Addr.add;split<;>simp_all
  rw[ha]
  have hlt:off+j<arr.size:=by omega
  refine⟨hone v (by simp),⟨_,(cell?_of hb).trans (Array.getElem?_eq_getElem hlt)⟩,frozen?_of hb,G.wr _ _ ho (hns _ (Nat.le_refl _)),?_⟩
  have hb':(w.setCell ⟨b,off+j,none⟩ v).heap[b]?=some (.cells (arr.setIfInBounds (off+j) v) e (0,0)):=by
   rw[heap_setCell,if_pos rfl,hb];rfl
  refine ih (arr:=arr.setIfInBounds (off+j) v) (fun n hn=>hns n (by omega)) hb' (by simp;omega) (fun u hu=>hone u (List.mem_cons_of_mem _ hu)) ?_
  intro w' arr' q1 q2 q3 q4 q5 q6 q7 q8 q9
  refine hq w' arr' q1 (fun n hn=>?_) (q3.trans (size_setCell _ _ _)) q4 q5 q6 (by rw[q7];simp) (fun n hn=>?_) (fun n hn=>?_)
  ·rw[q2 n hn,heap_setCell,if_neg hn]
  ·rw[q8 n (by omega),Array.getElem?_setIfInBounds_ne (by omega)]
  ·cases n with
   |zero=>rw[Nat.add_zero,q8 (off+j) (by omega)];simp[hlt]
   |succ n=>
    have:=q9 n (by simp at hn;omega)
    rw[List.getElem?_cons_succ,<-this]
    congr 1
    omega
theorem nextslice_small{need cap bytes:Nat}(h1:cap<need)(h2:need≤1048576)(h3:bytes≤1024):¬Builtin.nextslicecap need cap*bytes>2 ^ 48:=by
 have:=nextslicecap_le h1
 have h4:Builtin.nextslicecap need cap*bytes≤2097152*1024:=Nat.mul_le_mul (by omega) h3
 omega
theorem oneCells_ev{new:List AV}(h1:new.all (·.oneCell?)=true)(ρ:Env):∀v∈AV.evs ρ new,v.oneCell'=true:=by
 rw[evs_map]
 intro v hv
 obtain⟨a,ha,rfl⟩:=List.mem_map.1 hv
 exact oneCell_ev (List.all_eq_true.1 h1 a ha) ρ
theorem appArgs?_len{O:Orc}{size:Nat}{x:AV}{n:Nat}{new:List AV}(ha:appArgs? O h size x=.ok (n,new)):new.length=n*size:=by
 unfold appArgs? at ha
 split at ha
 ·split at ha
  ·cases ha;simp
  ·cases ha
 ·simp only[bind_ok,pure_ok]at ha
  obtain⟨m,hm,l,hl,e⟩:=ha
  cases e
  exact loadN_length hl
 ·split at ha
  ·rename_i h1
   cases ha
   simp[h1]
  ·cases ha
 ·cases ha
theorem appArgs?_in(I:Ids K U h){size:Nat}{x:AV}{n:Nat}{new:List AV}(ha:appArgs? K.O h size x=.ok (n,new)):AV.Ins U new:=by
 unfold appArgs? at ha
 split at ha
 ·split at ha
  ·cases ha;trivial
  ·cases ha
 ·simp only[bind_ok,pure_ok]at ha
  obtain⟨m,hm,l,hl,e⟩:=ha
  cases e
  exact loadN_in I hl
 ·split at ha
  ·cases ha
   exact Ins_iff.2 fun a ha=>by obtain⟨c,_,rfl⟩:=List.mem_map.1 ha;trivial
  ·cases ha
 ·cases ha
theorem wq_lenOf{E:Value->World->Prop}{O:Orc}{size:Nat}{x:AV}{n:Nat}{new:List AV}(ha:appArgs? O h size x=.ok (n,new)){Q:Nat->World->Prop}(hq:Q n w):wq K.P K.Ev E (Builtin.lenOf (x.ev ρ)) Q w:=by
 unfold appArgs? at ha
 split at ha
 ·split at ha
  ·cases ha;exact hq
  ·cases ha
 ·simp only[bind_ok,pure_ok]at ha
  obtain⟨m,hm,l,hl,e⟩:=ha
  cases e
  obtain rfl:=litNat?_ok hm
  exact hq
 ·split at ha
  ·cases ha;exact hq
  ·cases ha
 ·cases ha
theorem wq_firstCells(R:Rel K ρ h w)(G:K.Good){E:Value->World->Prop}{size:Nat}{x:AV}{n:Nat}{new:List AV}(ha:appArgs? K.O h size x=.ok (n,new)){Q:Array Value->World->Prop}(hq:Q (AV.evs ρ new).toArray w):
  wq K.P K.Ev E (Builtin.firstCells size n (x.ev ρ)) Q w:=by
 unfold appArgs? at ha
 split at ha
 ·split at ha
  ·cases ha;exact hq
  ·cases ha
 ·simp only[bind_ok,pure_ok]at ha
  obtain⟨m,hm,l,hl,e⟩:=ha
  cases e
  simp only[AV.ev,Option.map_some,Builtin.firstCells,loadCells]
  exact loadN_sound R G hl (by simpa using hq)
 ·split at ha
  ·rename_i t h1
   cases ha
   simp only[AV.ev,Builtin.firstCells,wq_pure]
   have:(t.extract 0 t.size).data.map (fun b=>Value.int .u8 b.toNat)=(AV.evs ρ (t.data.toList.map fun c=>AV.int .u8 (.lit c.toNat))).toArray:=by
    have e0:t.extract 0 t.size=t:=ByteArray.extract_zero_size
    rw[e0,evs_map,List.map_map]
    apply Array.toList_inj.1
    simp[AV.ev,IE.ev]
   rw[this];exact hq
  ·cases ha
 ·cases ha
theorem allocRow?_sound(R:Rel K ρ h w)(I:Ids K U h){old:Option Nat}{cs:List AV}{elem:TypeId}{len:Nat}{v:AV}{h':AH}(ha:allocRow? h old cs elem len=.ok (v,h'))(hc:AV.Ins U cs):
  v.In (plus U h.nb h'.nb)∧Grows K U h h'∧∀(m:Nat) (c:Nat) (w':World) (arr:Array Value) (rest:List Value) (i:TypeInfo),Keeps K.own w w'->w'.heap[m]?=some (.cells arr elem (0,0))->(K.own m∧∀n,¬K.still m n)->Rel K ρ (match old with|some i=>{h with hp:=dropB i h.hp}|none=>h) w'->
   (∀j b,findB j (match old with|some i=>dropB i h.hp|none=>h.hp)=some b->ρ.b j≠m)->arr.toList=AV.evs ρ cs++rest->K.P.info? elem=some i->arr.size=c*i.size->
   After K U ρ w h' (fun ρ'=>v.ev ρ'=.slice (some ⟨m,0,none⟩) len c) w':=by
 obtain⟨hp,nb,lim⟩:=h
 simp only[allocRow?]at ha
 split at ha
 ·rename_i hlt
  cases ha
  have hnu:¬U nb:=I.fresh _ (Nat.le_refl _) hlt
  have hin:ABlk.In (plus U nb (nb+1)) (.row cs elem (.var nb)):=⟨AV.Ins.mono plus_sub _ hc,.inr ⟨Nat.le_refl _,Nat.lt_succ_self _⟩⟩
  refine⟨⟨⟨.inr ⟨Nat.le_refl _,Nat.lt_succ_self _⟩,trivial⟩,trivial,.inr ⟨Nat.le_refl _,Nat.lt_succ_self _⟩⟩,?_,?_⟩
  ·cases old with
   |none=>exact⟨Nat.le_succ _,rfl,I.ins hlt hin⟩
   |some i=>exact⟨Nat.le_succ _,rfl,(I.drop i).ins hlt hin⟩
  ·intro m c w' arr rest inf hk hm ho R' hne harr hinf hsz
   have hf:(ABlk.row cs elem (.var nb)).fits K.P (ρ.upd nb m c) arr:=⟨rest,inf,by rw[AV.evs_agree (agree_upd hnu) cs hc];exact harr,hinf,by simpa[IE.ev,Env.upd] using hsz⟩
   refine⟨ρ.upd nb m c,agree_upd hnu,?_,hk,?_⟩
   ·cases old with
    |none=>exact Rel.ins R' I hlt hm ho.1 hne ho.2 hf
    |some i=>exact Rel.ins R' (I.drop i) hlt hm ho.1 hne ho.2 hf
   ·simp[AV.ev,AA.ev,BR.ev,IE.ev,Env.upd]
 ·cases ha
theorem wq_grow(G:K.Good)(R:Rel K ρ h w){E:Value->World->Prop}{elem:TypeId}{i:TypeInfo}{z:AV}{zc:List AV}{need sCap sLen n size:Nat}{s x:Value}{old new:List AV}(hi:K.P.info? elem=some i)(hsz:i.size=size)(hz:zero? K.P elem=.ok z)(hc:z.cells?=.ok zc)(hzl:zc.length=size)
 (hold:∀{Q':Array Value->World->Prop} {w':World},Rel K ρ h w'->Q' (AV.evs ρ old).toArray w'->wq K.P K.Ev E (Builtin.firstCells size sLen s) Q' w')
 (hnew:∀{Q':Array Value->World->Prop} {w':World},Rel K ρ h w'->Q' (AV.evs ρ new).toArray w'->wq K.P K.Ev E (Builtin.firstCells size n x) Q' w')
 (hlen:(old++new).length=need*size)(hneed:need≤1048576){Q:Value->World->Prop}
 (hq:∀(newCap:Nat) (w0:World) (arr:Array Value) (rest:List Value),w0.heap=w.heap->w0.tape=w.tape->w0.os=w.os->w0.output=w.output->arr.toList=AV.evs ρ (old++new)++rest->arr.size=newCap*size->need≤newCap->
   Q (.slice (some ⟨w.heap.size,0,none⟩) need newCap) {w0 with heap:=w0.heap.push (.cells arr elem (0,0))}):
  wq K.P K.Ev E (do
   let newCap<-choose (.appendCap need sCap elem)
   askRoom (newCap*(<-typeInfo elem).bytes)
   let old<-Builtin.firstCells size sLen s
   let new<-Builtin.firstCells size n x
   let rest:=Builtin.zeroCells (<-zeroValue elem).cells (newCap-need)
   Pure.pure (.slice (some (<-newRow elem (old++new++rest))) need newCap)) Q w:=by
 simp only[wq_bind]
 rw[wq_choose]
 rw[if_neg (by simp[Question.forced])]
 intro nn
 simp only[wq_typeInfo hi]
 have ask:∀{m:Nat} {Q':Unit->World->Prop} {w':World},Q' () w'->wq K.P K.Ev E (askRoom m) Q' w':=by
  intro m Q' w' hq'
  unfold askRoom
  simp only[wq_ite,wq_mark,wq_pure]
  split
  ·exact⟨G.noRoom,hq'⟩
  ·exact hq'
 refine ask ?_
 have R':Rel K ρ h {w with drawn:=w.drawn+1}:=R.at rfl
 refine hold R' ?_
 refine hnew R' ?_
 simp only[wq_zeroValue (ρ:=ρ) hz,newRow,wq_bind,wq_newObj,wq_pure]
 have hcut:need≤Question.cut (.appendCap need sCap elem) nn:=by simp only[Question.cut];omega
 generalize hcap:Question.cut (.appendCap need sCap elem) nn=newCap at hcut
 refine hq newCap {w with drawn:=w.drawn+1} _ (Builtin.zeroCells (z.ev ρ).cells (newCap-need)).toList rfl rfl rfl rfl ?_ ?_ hcut
 ·simp[evs_append]
 ·have e1:(z.ev ρ).cells.size=size:=by rw[cells?_ev hc ρ];simp[evs_length,hzl]
  have e2:old.length+new.length=need*size:=by simpa using hlen
  simp only[Array.size_append,Builtin.zeroCells,Array.size_map,Array.size_range,List.size_toArray,evs_length,e1]
  rw[e2,<-Nat.add_mul]
  congr 1
  omega
end
section
variable {K:Ctx}{ρ:Env}{h:AH}{w:World}{U:Nat->Prop}
theorem store0_nb{a:AA}{v:AV}{h':AH}(hs:store0 h a v=.ok h'):h'.nb=h.nb∧h'.lim=h.lim:=by
 unfold store0 at hs
 split at hs
 ·split at hs
  ·split at hs
   ·cases hs;exact⟨rfl,rfl⟩
   ·cases hs
  ·cases hs
 ·cases hs
theorem store1_nb{a:AA}{v:AV}{h':AH}(hs:store1 h a v=.ok h'):h'.nb=h.nb∧h'.lim=h.lim:=by
 unfold store1 at hs
 split at hs
 ·rename_i h1 hh
  cases hs
  exact store0_nb hh
 ·split at hs
  ·rename_i h1 hh
   cases hs
   unfold preSet? at hh
   split at hh
   ·split at hh
    ·split at hh
     ·split at hh
      ·cases hh;exact⟨rfl,rfl⟩
      ·cases hh
     ·cases hh
    ·cases hh
   ·cases hh
  ·cases hs
theorem storeN_nb{a:AA}:∀{l:List AV} {j:Nat} {h h':AH},storeN h a l j=.ok h'->h'.nb=h.nb∧h'.lim=h.lim:=by
 intro l
 induction l with
 |nil=>intro j h h' hs;simp[storeN]at hs;subst hs;exact⟨rfl,rfl⟩
 |cons v l ih=>
  intro j h h' hs
  simp only[storeN]at hs
  split at hs
  ·rename_i h1 hh1
   have a1:=store1_nb hh1
   have a2:=ih hs
   exact⟨a2.1.trans a1.1,a2.2.trans a1.2⟩
  ·cases hs
theorem Grows.of_same{h':AH}(I':Ids K U h')(e1:h'.nb=h.nb)(e2:h'.lim=h.lim):Grows K U h h':=
 ⟨by omega,e2,I'.congr fun n=>⟨.inl,fun x=>x.elim id fun x=>by omega⟩⟩
theorem lenPlus_ev(ρ:Env)(m:IE)(k:Nat):((lenPlus m k).ev ρ).toNat=(m.ev ρ).toNat+k:=by
 unfold lenPlus
 split
 ·simp
 ·simp only[IE.ev];simp;omega
theorem lenPlus_in{m:IE}(k:Nat)(h:m.In U):(lenPlus m k).In U:=by
 unfold lenPlus
 split
 ·exact h
 ·exact⟨h,trivial⟩
theorem wq_loadCells_arr(G:K.Good){E:Value->World->Prop}{b:Nat}(ho:K.own b){arr:Array Value}{e:TypeId}{w:World}(hb:w.heap[b]?=some (.cells arr e (0,0))):∀{n j:Nat} {acc:Array Value},j+n≤arr.size->
  ∀{Q:Array Value->World->Prop},Q (acc++((arr.toList.drop j).take n).toArray) w->wq K.P K.Ev E (loadCellsFrom ⟨b,0,none⟩ j n acc) Q w:=by
 intro n
 induction n with
 |zero=>intro j acc hj Q hq;simpa[loadCellsFrom] using hq
 |succ n ih=>
  intro j acc hj Q hq
  simp only[loadCellsFrom,wq_bind]
  rw[wq_load]
  have ha:(⟨b,0,none⟩:Addr).add j=⟨b,j,none⟩:=by unfold Addr.add;split<;>simp_all
  rw[ha]
  have hlt:j<arr.size:=by omega
  refine⟨_,(cell?_of hb).trans (Array.getElem?_eq_getElem hlt),G.rd _ _ ho,ih (by omega) ?_⟩
  have:(arr.toList.drop j).take (n+1)=arr[j]::(arr.toList.drop (j+1)).take n:=by
   rw[List.drop_eq_getElem_cons (by simpa using hlt),List.take_succ_cons]
   rfl
  rw[this]at hq
  simpa using hq
theorem wq_growV(G:K.Good)(R:Rel K ρ h w){E:Value->World->Prop}{elem:TypeId}{i:TypeInfo}{z:AV}{zc:List AV}{need sCap sLen n size:Nat}{s x:Value}{old new:List Value}(hi:K.P.info? elem=some i)(hsz:i.size=size)(hz:zero? K.P elem=.ok z)(hc:z.cells?=.ok zc)(hzl:zc.length=size)
 (hold:∀{Q':Array Value->World->Prop} {w':World},w'.heap=w.heap->Q' old.toArray w'->wq K.P K.Ev E (Builtin.firstCells size sLen s) Q' w')
 (hnew:∀{Q':Array Value->World->Prop} {w':World},Rel K ρ h w'->Q' new.toArray w'->wq K.P K.Ev E (Builtin.firstCells size n x) Q' w')
 (hlen:(old++new).length=need*size)(hneed:need≤1048576){Q:Value->World->Prop}
 (hq:∀(newCap:Nat) (w0:World) (arr:Array Value) (rest:List Value),w0.heap=w.heap->w0.tape=w.tape->w0.os=w.os->w0.output=w.output->arr.toList=old++new++rest->arr.size=newCap*size->need≤newCap->
   Q (.slice (some ⟨w.heap.size,0,none⟩) need newCap) {w0 with heap:=w0.heap.push (.cells arr elem (0,0))}):
  wq K.P K.Ev E (do
   let newCap<-choose (.appendCap need sCap elem)
   askRoom (newCap*(<-typeInfo elem).bytes)
   let old<-Builtin.firstCells size sLen s
   let new<-Builtin.firstCells size n x
   let rest:=Builtin.zeroCells (<-zeroValue elem).cells (newCap-need)
   Pure.pure (.slice (some (<-newRow elem (old++new++rest))) need newCap)) Q w:=by
 simp only[wq_bind]
 rw[wq_choose]
 rw[if_neg (by simp[Question.forced])]
 intro nn
 simp only[wq_typeInfo hi]
 have ask:∀{m:Nat} {Q':Unit->World->Prop} {w':World},Q' () w'->wq K.P K.Ev E (askRoom m) Q' w':=by
  intro m Q' w' hq'
  unfold askRoom
  simp only[wq_ite,wq_mark,wq_pure]
  split
  ·exact⟨G.noRoom,hq'⟩
  ·exact hq'
 refine ask ?_
 have R':Rel K ρ h {w with drawn:=w.drawn+1}:=R.at rfl
 refine hold rfl ?_
 refine hnew R' ?_
 simp only[wq_zeroValue (ρ:=ρ) hz,newRow,wq_bind,wq_newObj,wq_pure]
 have hcut:need≤Question.cut (.appendCap need sCap elem) nn:=by simp only[Question.cut];omega
 generalize hcap:Question.cut (.appendCap need sCap elem) nn=newCap at hcut
 refine hq newCap {w with drawn:=w.drawn+1} _ (Builtin.zeroCells (z.ev ρ).cells (newCap-need)).toList rfl rfl rfl rfl ?_ ?_ hcut
 ·simp
 ·have e1:(z.ev ρ).cells.size=size:=by rw[cells?_ev hc ρ];simp[evs_length,hzl]
  have e2:old.length+new.length=need*size:=by simpa using hlen
  simp only[Array.size_append,Builtin.zeroCells,Array.size_map,Array.size_range,List.size_toArray,e1]
  rw[e2,<-Nat.add_mul]
  congr 1
  omega
theorem append_front{E Q:Value->World->Prop}{argTypes:Array TypeId}{ty sType xType elem:TypeId}{X:TypeDesc}{base:Option AA}{sl sc:IE}{x:AV}{n size bytes:Nat}{new:List AV}{info:TypeInfo}(h0:argTypes[0]?=some sType)(h1:argTypes[1]?=some xType)
 (hX:under? K.P xType=.ok X)(hXn:∀k,X=.int k->False)(hS:under? K.P sType=.ok (.slice elem))(hsz:sizeOf? K.P elem=.ok size)(hinfo:K.P.info? elem=some info)(hib:info.bytes=bytes)(hb0:0<bytes)(hb1:bytes≤1024)(hnew:appArgs? K.O h size x=.ok (n,new))
 (hlong:(sl.ev ρ).toNat+n≤1048576)
 (hq:wq K.P K.Ev E (if(sl.ev ρ).toNat+n≤(sc.ev ρ).toNat then(do
    let new<-Builtin.firstCells size n (x.ev ρ)
    match base.map (AA.ev ρ)with
    |some a=>do
     storeCells (a.add ((sl.ev ρ).toNat*size)) new.toList
     Pure.pure (.slice (base.map (AA.ev ρ)) ((sl.ev ρ).toNat+n) (sc.ev ρ).toNat)
    |none=>Pure.pure (.slice (base.map (AA.ev ρ)) ((sl.ev ρ).toNat+n) (sc.ev ρ).toNat))
   else(do
    let newCap<-choose (.appendCap ((sl.ev ρ).toNat+n) (sc.ev ρ).toNat elem)
    askRoom (newCap*(<-typeInfo elem).bytes)
    let old<-Builtin.firstCells size (sl.ev ρ).toNat (.slice (base.map (AA.ev ρ)) (sl.ev ρ).toNat (sc.ev ρ).toNat)
    let new<-Builtin.firstCells size n (x.ev ρ)
    let rest:=Builtin.zeroCells (<-zeroValue elem).cells (newCap-((sl.ev ρ).toNat+n))
    Pure.pure (.slice (some (<-newRow elem (old++new++rest))) ((sl.ev ρ).toNat+n) newCap))) Q w):
  wq K.P K.Ev E (Builtin.append_ argTypes ty #[(AV.slice base sl sc).ev ρ,x.ev ρ]) Q w:=by
 have hX':=under?_ok hX
 clear hX
 unfold Builtin.append_
 simp only[h0,h1,List.getElem?_toArray,List.getElem?_cons_zero,List.getElem?_cons_succ,wq_bind,wq_underlying (under?_ok hS),wq_sizeOf hsz,wq_underlying hX',wq_pure,AV.ev]
 cases X<;>first
  |exact absurd rfl (hXn _)
  |skip
 all_goals simp only[Bool.false_eq_true,if_false]
 all_goals rw[wq_bind]
 all_goals refine wq_lenOf hnew ?_
 all_goals simp only[Bool.not_false,if_true]
 all_goals by_cases hc:(sl.ev ρ).toNat+n≤(sc.ev ρ).toNat
 all_goals first
  |(rw[if_pos hc]at hq⊢;cases base<;>exact hq)
  |(rw[if_neg hc]at hq⊢;rw[wq_bind,wq_typeInfo hinfo];rw[if_neg (by rw[hib];intro hh;exact hh.2.elim id (fun h3=>by omega))];rw[wq_bind,wq_typeInfo hinfo];rw[if_neg (by rw[hib];exact nextslice_small (by omega) hlong hb1)];exact hq)
theorem allocPre?_sound(R:Rel K ρ h w)(I:Ids K U h){old s:Nat}{lk:Bool}{n:IE}{fs ws:List (IE×AV)}{cs:List AV}{elem:TypeId}{len:IE}{v:AV}{h':AH}(ha:allocPre? h old lk s n fs ws cs elem len=.ok (v,h'))(hc:(ABlk.pre lk s n fs ws cs elem (.lit 0)).In U)(hl:len.In U):
  v.In (plus U h.nb h'.nb)∧Grows K U h h'∧∀(m:Nat) (c:Nat) (w':World) (arr pre:Array Value) (rest:List Value) (i:TypeInfo),Keeps K.own w w'->w'.heap[m]?=some (.cells arr elem (0,0))->(K.own m∧∀k,K.still m k->lk=true∧∃i,K.P.info? elem=some i∧k<(n.ev ρ).toNat*i.size)->Rel K ρ {h with hp:=dropB old h.hp} w'->
   (∀j b,findB j (dropB old h.hp)=some b->ρ.b j≠m)->PreIs K.P ρ s n fs ws elem i pre->arr.toList=wrote ρ pre.toList ws++(AV.evs ρ cs++rest)->arr.size=c*i.size->
   After K U ρ w h' (fun ρ'=>v.ev ρ'=.slice (some ⟨m,0,none⟩) (len.ev ρ).toNat c) w':=by
 obtain⟨hp,nb,lim⟩:=h
 simp only[allocPre?]at ha
 split at ha
 ·rename_i hlt
  cases ha
  have hnu:¬U nb:=I.fresh _ (Nat.le_refl _) hlt
  have hnb:plus U nb (nb+1) nb:=.inr ⟨Nat.le_refl _,Nat.lt_succ_self _⟩
  have hc':=ABlk.In.mono (plus_sub (U:=U) (a:=nb) (b:=nb+1)) hc
  have hin:ABlk.In (plus U nb (nb+1)) (.pre lk s n fs ws cs elem (.var nb)):=⟨hc'.1,hc'.2.1,hc'.2.2.1,hc'.2.2.2.1,hnb⟩
  refine⟨⟨⟨hnb,trivial⟩,IE.In.mono plus_sub hl,hnb⟩,⟨Nat.le_succ _,rfl,(I.drop old).ins hlt hin⟩,?_⟩
  intro m c w' arr pre rest inf hk hm ho R' hne hp harr hsz
  have A:Agree U ρ (ρ.upd nb m c):=agree_upd hnu
  have hf:(ABlk.pre lk s n fs ws cs elem (.var nb)).fits K.P (ρ.upd nb m c) arr:=
   ⟨pre,rest,inf,hp.agree A hc.1 hc.2.1 hc.2.2.1,by rw[wrote_agree A _ hc.2.2.1,AV.evs_agree A cs hc.2.2.2.1];exact harr,by simpa[IE.ev,Env.upd] using hsz⟩
  refine⟨ρ.upd nb m c,A,Rel.insL R' (I.drop old) hlt hm ho.1 hne (fun k hk'=>by have:=ho.2 k hk';rw[<-IE.ev_agree A hc.1]at this;exact this) (.inl ⟨arr,rfl,hf⟩),hk,?_⟩
  have:(len.ev (ρ.upd nb m c))=len.ev ρ:=IE.ev_agree A hl
  simp[AV.ev,AA.ev,BR.ev,IE.ev,Env.upd]at this⊢
  rw[<-this]
 ·cases ha
theorem appPre_ok(G:K.Good)(R:Rel K ρ h w)(I:Ids K U h){argTypes:Array TypeId}{ty sType xType elem:TypeId}{X:TypeDesc}{base:Option AA}{sl sc:IE}{x z:AV}{zc:List AV}{n size bytes:Nat}{new:List AV}{v:AV}{h':AH}(h0:argTypes[0]?=some sType)(h1:argTypes[1]?=some xType)
 (hX:under? K.P xType=.ok X)(hXn:∀k,X=.int k->False)(hS:under? K.P sType=.ok (.slice elem))(hsz:sizeOf? K.P elem=.ok size)(hz:zero? K.P elem=.ok z)(hzc:z.cells?=.ok zc)(hbytes:bytesOf? K.P elem=.ok bytes)(hzl:zc.length=size)(hs0:0<size)(hb0:0<bytes)(hb1:bytes≤1024)
 (hnew:appArgs? K.O h size x=.ok (n,new))(hall:new.all (·.oneCell?)=true)(hs:(AV.slice base sl sc).In U)(he:appPre? K.O h base sl sc n size new elem=.ok (v,h')):
  HOk K U ρ h w (Builtin.append_ argTypes ty #[(AV.slice base sl sc).ev ρ,x.ev ρ]) v h':=by
 have hnl:=appArgs?_len hnew
 have hni:=appArgs?_in I hnew
 obtain⟨info,hinfo,hib⟩:=bytesOf?_ok hbytes
 obtain⟨info',hinfo',his⟩:=sizeOf?_ok hsz
 obtain rfl:info=info':=by rw[hinfo]at hinfo';exact Option.some.inj hinfo'
 have isz:info.size=size:=by rw[<-his]
 have hone:=oneCells_ev hall ρ
 unfold appPre? at he
 split at he
 rotate_left
 ·cases he
 rename_i a
 split at he
 rotate_left
 ·cases he
 rename_i i hblk hoff
 split at he
 rotate_left
 ·cases he
 rename_i lk s m fs ws cs e c' hfind
 split at he
 rotate_left
 ·cases he
 rename_i hok
 unfold preOk? at hok
 simp only[Bool.and_eq_true,decide_eq_true_eq]at hok
 obtain⟨⟨⟨⟨hee,hcc⟩,hk⟩,hsl⟩,hdec⟩:=hok
 have hee':=hee.symm
 subst hee'
 have hcc':=IE.eqb_eq hcc
 subst hcc'
 have hk':=Nat.eq_of_beq_eq_true hk
 have hsl':=IE.eqb_eq hsl
 subst hsl'
 generalize hkk:cs.length / size=k at*
 have hlong:((lenPlus m k).ev ρ).toNat+n≤1048576:=by
  split at hdec
  ·rename_i b hd
   subst hdec
   have:=dec_ev R hd
   have h2:((((lenPlus m k).ev ρ).toNat:Int)+(n:Int)≤1048576):=of_decide_eq_true this
   omega
  ·cases hdec
 have hsLen:((lenPlus m k).ev ρ).toNat=(m.ev ρ).toNat+k:=lenPlus_ev ρ m k
 obtain⟨arr,ha1,pre,rest,i1,hp,hf1,hf3⟩:=R.arr hfind rfl
 obtain rfl:info=i1:=by have:=hp.info;rw[hinfo]at this;exact Option.some.inj this
 have hown:=R.own _ _ hfind rfl
 have hns:∀k,K.still (ρ.b i) k->lk=true∧∃i,K.P.info? elem=some i∧k<(m.ev ρ).toNat*i.size:=fun n hs=>R.lent _ _ hfind n hs
 have hbi:=I.hp _ _ hfind
 generalize hLen:((lenPlus m k).ev ρ).toNat=sLen at*
 have hns2:∀k,sLen*size+0≤k->¬K.still (ρ.b i) k:=fun k hk2 hs=>by
  obtain⟨_,i2,h2,h3⟩:=hns k hs
  obtain rfl:info=i2:=by rw[hinfo]at h2;exact Option.some.inj h2
  rw[isz]at h3
  have:(m.ev ρ).toNat*size≤sLen*size:=Nat.mul_le_mul_right _ (by omega)
  omega
 obtain⟨V,hV⟩:∃V,V=wrote ρ pre.toList ws++AV.evs ρ cs:=⟨_,rfl⟩
 have hVl:V.length=sLen*size:=by
  rw[hV,List.length_append,wrote_length,evs_length,<-hk',Array.length_toList,hp.size,isz,hsLen,Nat.add_mul]
 have hf1':arr.toList=V++rest:=by rw[hf1,hV,List.append_assoc]
 have hasz:arr.size=sLen*size+rest.length:=by
  have:=congrArg List.length hf1'
  rw[List.length_append,hVl]at this
  simpa using this
 have hcap:sLen≤(sc.ev ρ).toNat:=by
  have h5:sLen*size≤(sc.ev ρ).toNat*size:=by rw[<-isz,<-hf3,isz];omega
  exact Nat.le_of_mul_le_mul_right h5 hs0
 have eaddr:a.ev ρ=⟨ρ.b i,0,none⟩:=by simp[AA.ev,hblk,hoff,BR.ev,IE.ev]
 have front:=fun{E:Value->World->Prop} {Q:Value->World->Prop}=>append_front (K:=K) (ρ:=ρ) (h:=h) (w:=w) (E:=E) (Q:=Q) (ty:=ty) (base:=some a) (sl:=lenPlus m k) (sc:=sc) (x:=x) h0 h1 hX hXn hS hsz hinfo hib hb0 hb1 hnew (by rw[hLen];exact hlong)
 rw[hLen]at front
 have new?:∀{E:Value->World->Prop} {Q':Array Value->World->Prop} {w':World},Rel K ρ h w'->Q' (AV.evs ρ new).toArray w'->wq K.P K.Ev E (Builtin.firstCells size n (x.ev ρ)) Q' w':=fun R' hq'=>wq_firstCells R' G hnew hq'
 split at he
 ·rw[pure_ok]at he
  cases he
  have hnil:new=[]:=List.eq_nil_of_length_eq_zero (by simpa using hnl)
  subst hnil
  refine HOk.pure R I hs fun{E Q} hq=>front ?_
  rw[if_pos (by omega),wq_bind]
  refine new? R ?_
  simp only[Option.map_some,AV.evs,wq_bind,storeCells,wq_pure]
  have:(AV.slice (some a) (lenPlus m k) sc).ev ρ=.slice (some (a.ev ρ)) (sLen+0) (sc.ev ρ).toNat:=by simp only[AV.ev,Option.map_some,hLen];rfl
  rw[<-this]
  exact hq
 ·rename_i hn0
  have hin:(ABlk.pre lk s m fs ws (cs++new) elem (.lit 0)).In U:=⟨hbi.1,hbi.2.1,hbi.2.2.1,Ins_iff.2 fun x hx'=>by
   rcases List.mem_append.1 hx' with h'|h'
   ·exact Ins_iff.1 hbi.2.2.2.1 _ h'
   ·exact Ins_iff.1 hni _ h',trivial⟩
  obtain⟨r1,r2,r3⟩:=allocPre?_sound R I he hin (lenPlus_in _ hbi.1)
  have hLen2:((lenPlus m (k+n)).ev ρ).toNat=sLen+n:=by rw[lenPlus_ev];omega
  rw[hLen2]at r3
  refine⟨r1,r2,fun{E Q} hq=>front ?_⟩
  by_cases hfit:sLen+n≤(sc.ev ρ).toNat
  ·rw[if_pos hfit,wq_bind]
   refine new? R ?_
   simp only[Option.map_some,wq_bind,eaddr]
   have eadd:(⟨ρ.b i,0,none⟩:Addr).add (sLen*size)=⟨ρ.b i,sLen*size,none⟩:=by unfold Addr.add;split<;>simp_all
   rw[eadd]
   have hroom:sLen*size+0+(AV.evs ρ new).length≤arr.size:=by
    rw[hf3,isz,evs_length,hnl,Nat.add_zero,<-Nat.add_mul]
    exact Nat.mul_le_mul_right _ hfit
   refine wq_storeCells_arr G hown hns2 ha1 hroom hone ?_
   intro w' arr' q1 q2 q3 q4 q5 q6 q7 q8 q9
   have hdrop:∀j b,findB j (dropB i h.hp)=some b->findB j h.hp=some b∧j≠i:=fun j b hb=>by
    rw[findB_dropB _ _ _ I.nodup]at hb
    split at hb
    · cases hb
    · rename_i hne;exact⟨hb,hne⟩
   have hneb:∀j b,findB j (dropB i h.hp)=some b->ρ.b j≠ρ.b i:=fun j b hb e=>(hdrop j b hb).2 (R.inj _ _ _ _ (hdrop j b hb).1 hfind e)
   have Kw:Keeps K.own w w':=⟨fun m hm=>q2 m (fun e=>hm (by rw[e];exact hown)),by rw[q3];exact Nat.le_refl _,q4,q5,q6⟩
   have Rw:Rel K ρ {h with hp:=dropB i h.hp} w':=
    ⟨fun j b hb=>by obtain⟨arr2,x1,x2⟩:=R.blk j b (hdrop j b hb).1;exact⟨arr2,by rw[q2 _ (hneb j b hb)];exact x1,x2⟩,
     fun j b hb=>R.own' j b (hdrop j b hb).1,fun j k b c hb hc e=>R.inj j k b c (hdrop j b hb).1 (hdrop k c hc).1 e,R.bs,R.is,
     fun p hp=>by
      obtain⟨m1,m2,m3⟩:=R.mem p hp
      refine⟨m1,?_,m3⟩
      simp only[World.cell?]at m2⊢
      rw[q2 _ (fun e=>m1 (by rw[e];exact hown))];exact m2,
     fun m hm=>R.room m (by rw[q3]at hm;exact hm),fun j b hb=>R.lent j b (hdrop j b hb).1,fun b n hs=>by rw[q3];exact R.low b n hs⟩
   have harr:arr'.toList=wrote ρ pre.toList ws++(AV.evs ρ (cs++new)++arr'.toList.drop (sLen*size+n*size)):=by
    have hl:V++AV.evs ρ new=arr'.toList.take (sLen*size+n*size):=by
      refine List.ext_getElem? fun j=>?_
      rw[List.getElem?_take]
      by_cases hm:j<sLen*size
      ·rw[List.getElem?_append_left (by rw[hVl];exact hm),if_pos (by omega),(show arr'.toList[j]?=arr'[j]? from Array.getElem?_toList),q8 j (by omega),(show arr[j]?=arr.toList[j]? from Array.getElem?_toList.symm),hf1',List.getElem?_append_left (by rw[hVl];exact hm)]
      ·rw[List.getElem?_append_right (by rw[hVl];omega),hVl]
       by_cases hm2:j<sLen*size+n*size
       ·rw[if_pos hm2,(show arr'.toList[j]?=arr'[j]? from Array.getElem?_toList)]
        have:=q9 (j-sLen*size) (by rw[evs_length,hnl];omega)
        rw[<-this]
        congr 1
        omega
       ·rw[if_neg hm2,List.getElem?_eq_none (by rw[evs_length,hnl];omega)]
    rw[evs_append,<-List.append_assoc,<-List.append_assoc,<-hV,hl];exact(List.take_append_drop _ _).symm
   obtain⟨ρ',a1,a2,a3,a4⟩:=r3 (ρ.b i) (sc.ev ρ).toNat w' arr' pre _ info Kw q1 ⟨hown,hns⟩ Rw hneb hp harr (by rw[q7];exact hf3)
   exact hq _ _ ⟨ρ',a1,a2,a3,a4.symm⟩
  ·rw[if_neg hfit]
   have hold:∀{E:Value->World->Prop} {Q':Array Value->World->Prop} {w':World},w'.heap=w.heap->Q' V.toArray w'->wq K.P K.Ev E (Builtin.firstCells size sLen (.slice (some (a.ev ρ)) sLen (sc.ev ρ).toNat)) Q' w':=by
    intro E Q' w' hh hq'
    simp only[Builtin.firstCells,loadCells,eaddr]
    refine wq_loadCells_arr G hown (by rw[hh];exact ha1) (by omega) ?_
    have:(arr.toList.drop 0).take (sLen*size)=V:=by
      rw[List.drop_zero,hf1',List.take_append_of_le_length (by omega),List.take_of_length_le (by omega)]
    rw[this]
    simpa using hq'
   refine wq_growV G R hinfo isz hz hzc hzl (fun hh=>hold hh) (fun R'=>new? R') (by rw[List.length_append,hVl,evs_length,hnl,Nat.add_mul]) hlong ?_
   intro newCap w0 arr2 rest2 e1 e2 e3 e4 e5 e6 e7
   have R0:Rel K ρ h w0:=R.at e1
   obtain⟨Rp,Kp⟩:=R0.push (.cells arr2 elem (0,0))
   have K0:Keeps K.own w w0:=⟨fun _ _=>by rw[e1],by rw[e1];exact Nat.le_refl _,e2,e3,e4⟩
   obtain⟨ρ',a1,a2,a3,a4⟩:=r3 w.heap.size newCap {w0 with heap:=w0.heap.push (.cells arr2 elem (0,0))} arr2 pre rest2 info (K0.trans Kp) (by rw[<-e1];simp) ⟨R.room _ (Nat.le_refl _),fun n hs=>by have:=R.low _ n hs;omega⟩ (Rp.drop I i)
    (fun j b hb e=>by
      rw[findB_dropB _ _ _ I.nodup]at hb
      split at hb
      ·cases hb
      ·obtain⟨arr',ha',_⟩:=R.blk j b hb;have:=heap_lt ha';omega) hp (by rw[e5,hV,evs_append,List.append_assoc,List.append_assoc,List.append_assoc]) (by rw[isz];exact e6)
   exact hq _ _ ⟨ρ',a1,a2,a3,a4.symm⟩
theorem append?_ok(G:K.Good)(R:Rel K ρ h w)(I:Ids K U h){argTypes:Array TypeId}{ty:TypeId}{s x v:AV}{h':AH}(hs:s.In U)(hx:x.In U)(he:append? K.P h argTypes s x K.O=.ok (v,h')):
  HOk K U ρ h w (Builtin.append_ argTypes ty #[s.ev ρ,x.ev ρ]) v h':=by
 unfold append? at he
 split at he
 ·rename_i sType xType h0 h1
  simp only[bind_ok]at he
  obtain⟨X,hX,he⟩:=he
  split at he
  ·cases he
  ·rename_i hXn
   simp only[bind_ok]at he
   obtain⟨S,hS,he⟩:=he
   split at he
   ·rename_i elem
    simp only[bind_ok]at he
    obtain⟨size,hsz,z,hz,zc,hzc,bytes,hbytes,he⟩:=he
    split at he
    ·rename_i hcond
     obtain⟨hzl,hs0,hb0,hb1⟩:=hcond
     simp only[bind_ok]at he
     obtain⟨⟨n,new⟩,hnew,he⟩:=he
     split at he
     ·rename_i hall
      split at he
      ·rename_i base sl sc
       split at he
       rotate_left
       ·exact appPre_ok G R I h0 h1 hX (fun k e=>hXn k e) hS hsz hz hzc hbytes hzl hs0 hb0 hb1 hnew hall hs he
       rename_i sn
       simp only[bind_ok]at he
       obtain⟨sLen,hsl,he⟩:=he
       have hsl':=litNat?_ok hsl
       cases hsl'
       split at he
       ·rename_i hlong
        have hnl:=appArgs?_len hnew
        have hni:=appArgs?_in I hnew
        obtain⟨info,hinfo,hib⟩:=bytesOf?_ok hbytes
        obtain⟨info',hinfo',his⟩:=sizeOf?_ok hsz
        obtain rfl:info=info':=by rw[hinfo]at hinfo';exact Option.some.inj hinfo'
        have front:∀{E:Value->World->Prop} {Q:Value->World->Prop},wq K.P K.Ev E (if sLen+n≤(sc.ev ρ).toNat then(do
           let new<-Builtin.firstCells size n (x.ev ρ)
           match base.map (AA.ev ρ)with
           |some a=>do
            storeCells (a.add (sLen*size)) new.toList
            Pure.pure (.slice (base.map (AA.ev ρ)) (sLen+n) (sc.ev ρ).toNat)
           |none=>Pure.pure (.slice (base.map (AA.ev ρ)) (sLen+n) (sc.ev ρ).toNat))
          else(do
           let newCap<-choose (.appendCap (sLen+n) (sc.ev ρ).toNat elem)
           askRoom (newCap*(<-typeInfo elem).bytes)
           let old<-Builtin.firstCells size sLen (.slice (base.map (AA.ev ρ)) sLen (sc.ev ρ).toNat)
           let new<-Builtin.firstCells size n (x.ev ρ)
           let rest:=Builtin.zeroCells (<-zeroValue elem).cells (newCap-(sLen+n))
           Pure.pure (.slice (some (<-newRow elem (old++new++rest))) (sLen+n) newCap))) Q w->
          wq K.P K.Ev E (Builtin.append_ argTypes ty #[(AV.slice base (.lit (.ofNat sLen)) sc).ev ρ,x.ev ρ]) Q w:=by
         intro E Q hq
         have hX':=under?_ok hX
         clear hX he
         unfold Builtin.append_
         simp only[h0,h1,List.getElem?_toArray,List.getElem?_cons_zero,List.getElem?_cons_succ,wq_bind,wq_underlying (under?_ok hS),wq_sizeOf hsz,wq_underlying hX',wq_pure,AV.ev,IE.ev]
         cases X<;>first
          |exact absurd rfl (hXn _)
          |skip
         all_goals simp only[Bool.false_eq_true,if_false]
         all_goals rw[wq_bind]
         all_goals refine wq_lenOf hnew ?_
         all_goals have e0:(Int.ofNat sLen).toNat=sLen:=rfl
         all_goals simp only[e0,Bool.not_false,if_true]
         all_goals by_cases hc:sLen+n≤(sc.ev ρ).toNat
         all_goals first
          |(rw[if_pos hc]at hq⊢;cases base<;>exact hq)
          |(rw[if_neg hc]at hq⊢;rw[wq_bind,wq_typeInfo hinfo];rw[if_neg (by rw[hib];intro hh;exact hh.2.elim id (fun h3=>by omega))];rw[wq_bind,wq_typeInfo hinfo];rw[if_neg (by rw[hib];exact nextslice_small (by omega) hlong hb1)];exact hq)
        have hone:=oneCells_ev hall ρ
        have new?:∀{E:Value->World->Prop} {Q':Array Value->World->Prop} {w':World},Rel K ρ h w'->Q' (AV.evs ρ new).toArray w'->wq K.P K.Ev E (Builtin.firstCells size n (x.ev ρ)) Q' w':=fun R' hq'=>wq_firstCells R' G hnew hq'
        have isz:info.size=size:=by rw[<-his]
        have old?:∀{old:List AV},appOld? K.O h base sLen size=.ok old->
          old.length=sLen*size∧AV.Ins U old∧∀{E:Value->World->Prop} {Q':Array Value->World->Prop} {w':World},Rel K ρ h w'->Q' (AV.evs ρ old).toArray w'->wq K.P K.Ev E (Builtin.firstCells size sLen (.slice (base.map (AA.ev ρ)) sLen (sc.ev ρ).toNat)) Q' w':=by
         intro old ho
         unfold appOld? at ho
         split at ho
         ·split at ho
          ·rename_i h00
           cases ho
           exact⟨by simp[h00],trivial,fun R' hq'=>hq'⟩
          ·cases ho
         ·refine⟨loadN_length ho,loadN_in I ho,fun R' hq'=>?_⟩
          simp only[Option.map_some,Builtin.firstCells,loadCells]
          exact loadN_sound R' G ho (by simpa using hq')
        split at he
        ·
         rename_i cap
         have ec:((IE.lit (Int.ofNat cap)).ev ρ).toNat=cap:=rfl
         split at he
         ·rename_i hle
          unfold appFit? at he
          split at he
          ·rename_i a
           simp only[bind_ok,pure_ok]at he
           obtain⟨h2,hst,e⟩:=he
           cases e
           have hnb:=storeN_nb hst
           have I':=storeN_ids (AA.add_in _ hs.1) I hst hni
           refine⟨⟨AA.In.mono plus_sub hs.1,trivial,trivial⟩,Grows.of_same I' hnb.1 hnb.2,fun{E Q} hq=>front ?_⟩
           rw[ec,if_pos hle,wq_bind]
           refine new? R ?_
           simp only[Option.map_some,wq_bind]
           rw[<-AA.add_ev]
           refine storeN_sound G R hst fun w' r1 r2 _ _=>?_
           exact hq _ _ ⟨ρ,Agree.refl _ _,r1,r2,rfl⟩
          ·split at he
           ·rename_i hn0
            rw[pure_ok]at he
            cases he
            subst hn0
            refine HOk.pure R I ⟨trivial,trivial,trivial⟩ fun{E Q} hq=>front ?_
            rw[ec,if_pos hle,wq_bind]
            refine new? R ?_
            exact hq
           ·cases he
         ·rename_i hle
          unfold appGrow? at he
          simp only[bind_ok]at he
          obtain⟨old,hold,ha⟩:=he
          obtain⟨o1,o2,o3⟩:=old? hold
          have hin:AV.Ins U (old++new):=Ins_iff.2 fun a ha=>by
           rcases List.mem_append.1 ha with h'|h'
           ·exact Ins_iff.1 o2 _ h'
           ·exact Ins_iff.1 hni _ h'
          obtain⟨r1,r2,r3⟩:=allocRow?_sound R I ha hin
          refine⟨r1,r2,fun{E Q} hq=>front ?_⟩
          rw[ec,if_neg hle]
          refine wq_grow G R hinfo isz hz hzc hzl (fun R'=>o3 R') (fun R'=>new? R') (by rw[List.length_append,o1,hnl,Nat.add_mul]) hlong ?_
          intro newCap w0 arr rest e1 e2 e3 e4 e5 e6 e7
          have R0:Rel K ρ h w0:=R.at e1
          obtain⟨Rp,Kp⟩:=R0.push (.cells arr elem (0,0))
          have K0:Keeps K.own w w0:=⟨fun _ _=>by rw[e1],by rw[e1];exact Nat.le_refl _,e2,e3,e4⟩
          obtain⟨ρ',a1,a2,a3,a4⟩:=r3 w.heap.size newCap {w0 with heap:=w0.heap.push (.cells arr elem (0,0))} arr rest info (K0.trans Kp) (by rw[<-e1];simp) ⟨R.room _ (Nat.le_refl _),fun n hs=>by have:=R.low _ n hs;omega⟩ Rp
           (fun j b hb e=>by obtain⟨arr',ha',_⟩:=R.blk j b hb;have:=heap_lt ha';omega) e5 hinfo (by rw[isz];exact e6)
          exact hq _ _ ⟨ρ',a1,a2,a3,a4.symm⟩
        ·
         unfold appRow? at he
         split at he
         ·rename_i a
          split at he
          ·rename_i i hblk hoff
           split at he
           ·rename_i cs e c' hfind
            split at he
            ·rename_i hc3
             obtain⟨hee,hcc,hlen⟩:=hc3
             have hee':=hee.symm
             subst hee'
             have hcc':=IE.eqb_eq hcc
             subst hcc'
             obtain⟨arr,ha1,rest,i1,hf1,hf2,hf3⟩:=R.arr hfind rfl
             obtain rfl:info=i1:=by rw[hinfo]at hf2;exact Option.some.inj hf2
             have hown:=R.own _ _ hfind rfl
             have hns:∀n,¬K.still (ρ.b i) n:=fun n hs=>by have:=R.lent _ _ hfind n hs;cases this
             have hbi:=I.hp _ _ hfind
             have hasz:arr.size=cs.length+rest.length:=by
              have:=congrArg List.length hf1
              simpa[evs_length] using this
             have hcap:sLen≤(sc.ev ρ).toNat:=by
              have h5:sLen*size≤(sc.ev ρ).toNat*size:=by rw[<-isz,<-hf3,isz];omega
              exact Nat.le_of_mul_le_mul_right h5 hs0
             have eaddr:a.ev ρ=⟨ρ.b i,0,none⟩:=by simp[AA.ev,hblk,hoff,BR.ev,IE.ev]
             split at he
             ·rename_i hn0
              rw[pure_ok]at he
              cases he
              subst hn0
              have hnil:new=[]:=List.eq_nil_of_length_eq_zero (by simpa using hnl)
              subst hnil
              refine HOk.pure R I hs fun{E Q} hq=>front ?_
              rw[if_pos (by omega),wq_bind]
              refine new? R ?_
              simp only[Option.map_some,AV.evs,wq_bind,storeCells,wq_pure]
              exact hq
             ·rename_i hn0
              have hin:AV.Ins U (cs.take (sLen*size)++new):=Ins_iff.2 fun x hx'=>by
               rcases List.mem_append.1 hx' with h'|h'
               ·exact Ins_iff.1 hbi.1 _ (List.mem_of_mem_take h')
               ·exact Ins_iff.1 hni _ h'
              obtain⟨r1,r2,r3⟩:=allocRow?_sound R I he hin
              refine⟨r1,r2,fun{E Q} hq=>front ?_⟩
              by_cases hfit:sLen+n≤(sc.ev ρ).toNat
              ·
               rw[if_pos hfit,wq_bind]
               refine new? R ?_
               simp only[Option.map_some,wq_bind,eaddr]
               have eadd:(⟨ρ.b i,0,none⟩:Addr).add (sLen*size)=⟨ρ.b i,sLen*size,none⟩:=by unfold Addr.add;split<;>simp_all
               rw[eadd]
               have hroom:sLen*size+0+(AV.evs ρ new).length≤arr.size:=by
                rw[hf3,isz,evs_length,hnl,Nat.add_zero,<-Nat.add_mul]
                exact Nat.mul_le_mul_right _ hfit
               refine wq_storeCells_arr G hown (fun n _=>hns n) ha1 hroom hone ?_
               intro w' arr' q1 q2 q3 q4 q5 q6 q7 q8 q9
               have hdrop:∀j b,findB j (dropB i h.hp)=some b->findB j h.hp=some b∧j≠i:=fun j b hb=>by
                rw[findB_dropB _ _ _ I.nodup]at hb
                split at hb
                · cases hb
                · rename_i hne;exact⟨hb,hne⟩
               have hneb:∀j b,findB j (dropB i h.hp)=some b->ρ.b j≠ρ.b i:=fun j b hb e=>(hdrop j b hb).2 (R.inj _ _ _ _ (hdrop j b hb).1 hfind e)
               have Kw:Keeps K.own w w':=⟨fun m hm=>q2 m (fun e=>hm (by rw[e];exact hown)),by rw[q3];exact Nat.le_refl _,q4,q5,q6⟩
               have Rw:Rel K ρ {h with hp:=dropB i h.hp} w':=
                ⟨fun j b hb=>by obtain⟨arr2,x1,x2⟩:=R.blk j b (hdrop j b hb).1;exact⟨arr2,by rw[q2 _ (hneb j b hb)];exact x1,x2⟩,
                 fun j b hb=>R.own' j b (hdrop j b hb).1,fun j k b c hb hc e=>R.inj j k b c (hdrop j b hb).1 (hdrop k c hc).1 e,R.bs,R.is,
                 fun p hp=>by
                  obtain⟨m1,m2,m3⟩:=R.mem p hp
                  refine⟨m1,?_,m3⟩
                  simp only[World.cell?]at m2⊢
                  rw[q2 _ (fun e=>m1 (by rw[e];exact hown))];exact m2,
                 fun m hm=>R.room m (by rw[q3]at hm;exact hm),fun j b hb=>R.lent j b (hdrop j b hb).1,fun b n hs=>by rw[q3];exact R.low b n hs⟩
               have harr:arr'.toList=AV.evs ρ (cs.take (sLen*size)++new)++arr'.toList.drop (sLen*size+n*size):=by
                have hl:(AV.evs ρ (cs.take (sLen*size)++new))=arr'.toList.take (sLen*size+n*size):=by
                  refine List.ext_getElem? fun m=>?_
                  rw[List.getElem?_take]
                  rw[evs_append]
                  have hl1:(AV.evs ρ (cs.take (sLen*size))).length=sLen*size:=by rw[evs_length,List.length_take];omega
                  by_cases hm:m<sLen*size
                  ·rw[List.getElem?_append_left (by rw[hl1];exact hm),if_pos (by omega),evs_get,List.getElem?_take,if_pos hm,(show arr'.toList[m]?=arr'[m]? from Array.getElem?_toList),q8 m (by omega),(show arr[m]?=arr.toList[m]? from Array.getElem?_toList.symm),hf1,List.getElem?_append_left (by rw[evs_length];omega),evs_get]
                  ·rw[List.getElem?_append_right (by rw[hl1];omega),hl1]
                   by_cases hm2:m<sLen*size+n*size
                   ·rw[if_pos hm2,(show arr'.toList[m]?=arr'[m]? from Array.getElem?_toList)]
                    have:=q9 (m-sLen*size) (by rw[evs_length,hnl];omega)
                    rw[<-this]
                    congr 1
                    omega
                   ·rw[if_neg hm2,List.getElem?_eq_none (by rw[evs_length,hnl];omega)]
                rw[hl];exact(List.take_append_drop _ _).symm
               obtain⟨ρ',a1,a2,a3,a4⟩:=r3 (ρ.b i) (sc.ev ρ).toNat w' arr' _ info Kw q1 ⟨hown,hns⟩ Rw hneb harr hinfo (by rw[q7];exact hf3)
               exact hq _ _ ⟨ρ',a1,a2,a3,a4.symm⟩
              ·
               rw[if_neg hfit]
               have hold:∀{E:Value->World->Prop} {Q':Array Value->World->Prop} {w':World},Rel K ρ h w'->Q' (AV.evs ρ (cs.take (sLen*size))).toArray w'->wq K.P K.Ev E (Builtin.firstCells size sLen (.slice (some (a.ev ρ)) sLen (sc.ev ρ).toNat)) Q' w':=by
                intro E Q' w' R' hq'
                have hl:∀(m j:Nat),j+m≤cs.length->loadN K.O h a m j=.ok ((cs.drop j).take m):=by
                  intro m
                  induction m with
                  |zero=>intro j _;simp[loadN]
                  |succ m ih=>
                   intro j hj
                   have h1:load1 K.O h (a.add j)=.ok cs[j]:=by
                    unfold load1 load0
                    have:(a.add j)=⟨.dyn i,.lit (.ofNat j)⟩:=by
                     simp only[AA.add,hblk,hoff,addN,Nat.zero_add]
                    rw[this]
                    simp only[hfind,ABlk.cs]
                    rw[List.getElem?_eq_getElem (by omega)]
                   simp only[loadN,h1]
                   rw[ih (j+1) (by omega)]
                   simp only
                   rw[List.drop_eq_getElem_cons (by omega:j<cs.length),List.take_succ_cons]
                simp only[Builtin.firstCells,loadCells]
                exact loadN_sound R' G (hl (sLen*size) 0 (by omega)) (by simpa using hq')
               refine wq_grow G R hinfo isz hz hzc hzl (fun R'=>hold R') (fun R'=>new? R') (by rw[List.length_append,List.length_take,hnl,Nat.add_mul,Nat.min_eq_left hlen]) hlong ?_
               intro newCap w0 arr2 rest2 e1 e2 e3 e4 e5 e6 e7
               have R0:Rel K ρ h w0:=R.at e1
               obtain⟨Rp,Kp⟩:=R0.push (.cells arr2 elem (0,0))
               have K0:Keeps K.own w w0:=⟨fun _ _=>by rw[e1],by rw[e1];exact Nat.le_refl _,e2,e3,e4⟩
               obtain⟨ρ',a1,a2,a3,a4⟩:=r3 w.heap.size newCap {w0 with heap:=w0.heap.push (.cells arr2 elem (0,0))} arr2 rest2 info (K0.trans Kp) (by rw[<-e1];simp) ⟨R.room _ (Nat.le_refl _),fun n hs=>by have:=R.low _ n hs;omega⟩ (Rp.drop I i)
                (fun j b hb e=>by
                  rw[findB_dropB _ _ _ I.nodup]at hb
                  split at hb
                  ·cases hb
                  ·obtain⟨arr',ha',_⟩:=R.blk j b hb;have:=heap_lt ha';omega) e5 hinfo (by rw[isz];exact e6)
               exact hq _ _ ⟨ρ',a1,a2,a3,a4.symm⟩
            ·cases he
           ·cases he
          ·cases he
         ·cases he
       ·cases he
      ·cases he
     ·cases he
    ·cases he
   ·cases he
 ·cases he
end
section
variable {K:Ctx}{ρ:Env}{h:AH}{w:World}{U:Nat->Prop}
theorem is_map{P:Program}{es:List (AV×AV)}{o:Obj}(h:(ABlk.map es).is P ρ o):∃arr clk,o=.map arr clk∧arr.toList.map (fun e=>(e.key,e.val))=es.map fun p=>(p.1.ev ρ,p.2.ev ρ):=by
 rcases h with⟨arr,_,h⟩|h
 ·exact h.elim
 ·exact h
theorem wq_getObj{P:Program}{Ev:Event->Prop}{E:Value->World->Prop}{r:Nat}{o:Obj}(h1:w.heap[r]?=some o)(h2:∀c e f,o≠.cells c e f)(h3:Ev ⟨.obj r,false,o.isChan⟩){Q:Obj->World->Prop}(hq:Q o w):wq P Ev E (getObj r) Q w:=
 ⟨o,h1,h2,h3,hq⟩
theorem wq_setObj{P:Program}{Ev:Event->Prop}{E:Value->World->Prop}{r:Nat}{o o':Obj}(h1:w.heap[r]?=some o')(h2:∀c e f,o'≠.cells c e f)(h3:Ev ⟨.obj r,true,o.isChan⟩){Q:Unit->World->Prop}(hq:Q () {w with heap:=w.heap.setIfInBounds r o}):wq P Ev E (setObj r o) Q w:=
 ⟨⟨o',h1,h2⟩,h3,hq⟩
theorem allocO?_sound(R:Rel K ρ h w)(I:Ids K U h){b:ABlk}{mk:BR->AV}{v:AV}{h':AH}(ha:allocO? h b mk=.ok (v,h'))(hb:b.In U)(hmk:∀r,BR.In (plus U h.nb (h.nb+1)) r->(mk r).In (plus U h.nb (h.nb+1)))(hst:∀n,b.isLent n=b.isLent n):
  v.In (plus U h.nb h'.nb)∧Grows K U h h'∧∀o,b.is K.P ρ o->After K U ρ w h' (fun ρ'=>v.ev ρ'=(mk (.dyn h.nb)).ev (ρ.upd h.nb w.heap.size 0)) {w with heap:=w.heap.push o}:=by
 obtain⟨hp,nb,lim⟩:=h
 simp only[allocO?]at ha
 split at ha
 ·rename_i hlt
  cases ha
  have hnu:¬U nb:=I.fresh _ (Nat.le_refl _) hlt
  refine⟨hmk _ (.inr ⟨Nat.le_refl _,Nat.lt_succ_self _⟩),⟨Nat.le_succ _,rfl,I.ins hlt (ABlk.In.mono plus_sub hb)⟩,fun o ho=>?_⟩
  obtain⟨R',kp⟩:=R.push o
  refine⟨ρ.upd nb w.heap.size 0,agree_upd hnu,R'.insO I hlt (by simp) (R.room _ (Nat.le_refl _)) (fun j x hx e=>?_) (fun n hs=>by have:=R.low _ n hs;omega) (is_agree (agree_upd hnu) hb ho),kp,rfl⟩
  obtain⟨arr',ha,_⟩:=R.blk j x hx
  have:=heap_lt ha
  omega
 ·cases ha
theorem makeChan_ok(R:Rel K ρ h w)(I:Ids K U h){t:TypeId}{s v:AV}{h':AH}(ha:makeChan? K.P h t s=.ok (v,h')):HOk K U ρ h w (Instr.makeChan t (s.ev ρ)) v h':=by
 unfold makeChan? at ha
 split at ha
 ·rename_i k d elem hu
  split at ha
  ·rename_i i hi
   obtain⟨h1,h2,h3⟩:=allocO?_sound R I ha trivial (fun r hr=>hr) (fun _=>rfl)
   refine⟨h1,h2,fun{E Q} hq=>?_⟩
   simp only[Instr.makeChan,AV.ev,IE.ev,wq_bind,asInt,asIntOf,wq_pure,wq_underlying hu,wq_typeInfo hi]
   have hm:¬(Int.ofNat 0<0∨Int.ofNat 0>IntKind.i64.max∨(i.bytes:Int)*Int.ofNat 0>2 ^ 48-112):=by
    simp[IntKind.max,IntKind.bits]
    decide
   simp only[hm,if_false,wq_bind,wq_pure,wq_newObj]
   obtain⟨ρ',a1,a2,a3,a4⟩:=h3 (.chan 0 #[] false 0 0 false) (.inr ⟨0,rfl⟩)
   refine hq _ _ ⟨ρ',a1,a2,a3,?_⟩
   show Value.chan (some w.heap.size)=v.ev ρ'
   rw[a4]
   simp[AV.ev,BR.ev,Env.upd]
  ·cases ha
 ·cases ha
theorem makeMap_ok(R:Rel K ρ h w)(I:Ids K U h){t:TypeId}{r:Option AV}{v:AV}{h':AH}(ha:makeMap? h r=.ok (v,h')):HOk K U ρ h w (Instr.makeMap t (r.map (AV.ev ρ))) v h':=by
 unfold makeMap? at ha
 split at ha
 ·obtain⟨h1,h2,h3⟩:=allocO?_sound R I ha (nofun) (fun r hr=>hr) (fun _=>rfl)
  refine⟨h1,h2,fun{E Q} hq=>?_⟩
  simp only[Instr.makeMap,Option.map_none,wq_bind,wq_pure,wq_newObj]
  obtain⟨ρ',a1,a2,a3,a4⟩:=h3 (.map #[] 0) (.inr ⟨#[],0,rfl,rfl⟩)
  refine hq _ _ ⟨ρ',a1,a2,a3,?_⟩
  show Value.map (some w.heap.size)=v.ev ρ'
  rw[a4]
  simp[AV.ev,BR.ev,Env.upd]
 ·cases ha
def Found(ρ:Env)(w:World)(Q:Option (Nat×Value)->World->Prop):Option AV->Prop
 |some v=>∀j,Q (some (j,v.ev ρ)) w
 |none=>Q none w
theorem wq_findAsking(R:Rel K ρ h w){E:Value->World->Prop}{key:TypeId}{k:AV}:∀{es:List (AV×AV)} {L:List MapEntry} {i:Nat} {r:Option AV},L.map (fun e=>(e.key,e.val))=es.map (fun p=>(p.1.ev ρ,p.2.ev ρ))->
  findA? K.P K.O h key k es=.ok r->∀{Q:Option (Nat×Value)->World->Prop},Found ρ w Q r->wq K.P K.Ev E (Instr.findAsking key (k.ev ρ) L i) Q w:=by
 intro es
 induction es with
 |nil=>
  intro L i r hL he Q hq
  obtain rfl:L=[]:=by simpa using hL
  cases he
  exact hq
 |cons p es ih=>
  intro L i r hL he Q hq
  cases L with
  |nil=>simp at hL
  |cons e L=>
   simp only[List.map_cons,List.cons.injEq,Prod.mk.injEq]at hL
   obtain⟨⟨e1,e2⟩,hL⟩:=hL
   obtain⟨a,v⟩:=p
   have he':(match eq? K.P K.O h 8 key k a with
    |.ok (.lit true)=>.ok (some v)
    |.ok (.lit false)=>findA? K.P K.O h key k es
    |.ok _=>.error "a maps key open"
    |.error e=>.error e)=Except.ok r:=he
   simp only[Instr.findAsking,wq_bind,e1]
   split at he'
   ·rename_i hb
    cases he'
    refine wq_equal R hb ?_
    show wq K.P K.Ev E (if true=true then _ else _) Q w
    simp only[if_true,wq_pure,e2]
    exact hq i
   ·rename_i hb
    refine wq_equal R hb ?_
    show wq K.P K.Ev E (if false=true then _ else _) Q w
    simp only[Bool.false_eq_true,if_false]
    exact ih hL he' hq
   ·cases he'
   ·cases he'
theorem eq_now(R:Rel K ρ h w){key:TypeId}{D:TypeDesc}(hu:K.P.underlying key=some D)(hD:D=.string∨∃kk,D=.int kk){k a:AV}{b:Bool}(he:eq? K.P K.O h 8 key k a=.ok (.lit b)):Instr.sameNow D (k.ev ρ) (a.ev ρ)=some b:=by
 simp only[eq?]at he
 rw[bind_ok]at he
 obtain⟨T,hT,he⟩:=he
 obtain rfl:T=D:=by
  have:=under?_ok hT
  rw[hu]at this
  exact(Option.some.inj this).symm
 have str:∀{x y:SE},Orc.bool K.O (.seq false x y)=.lit b->(x.ev ρ==y.ev ρ)=b:=fun{x y} e=>by
  have:=bool_lit R e
  rw[seq_ev]at this
  exact this
 split at he
 ·rcases hD with h|⟨kk,h⟩<;>cases h
 ·split at he
  ·rename_i hk
   rw[pure_ok]at he
   have:=bool_lit R he
   subst hk
   show(if _=_ then some _ else none)=some b
   rw[if_pos rfl,<-this]
   rfl
  ·cases he
 ·rw[pure_ok]at he
  cases he
  rfl
 ·rw[pure_ok]at he
  exact congrArg some (str he)
 ·rw[pure_ok]at he
  exact congrArg some (str he)
 ·rw[pure_ok]at he
  exact congrArg some (str he)
 all_goals (rcases hD with h|⟨kk,h⟩<;>first|(cases h;done)|(cases he;done))
theorem find_now(R:Rel K ρ h w){key:TypeId}{D:TypeDesc}(hu:K.P.underlying key=some D)(hD:D=.string∨∃kk,D=.int kk){k:AV}:∀{es:List (AV×AV)} {L:List MapEntry} {i:Nat} {r:Option AV},L.map (fun e=>(e.key,e.val))=es.map (fun p=>(p.1.ev ρ,p.2.ev ρ))->findA? K.P K.O h key k es=.ok r->
  ∃q,Instr.findNow D (k.ev ρ) L i=some q∧∀{Q:Option (Nat×Value)->World->Prop},Found ρ w Q r->Q q w:=by
 intro es
 induction es with
 |nil=>
  intro L i r hL he
  obtain rfl:L=[]:=by simpa using hL
  cases he
  exact⟨none,rfl,fun{Q} hq=>hq⟩
 |cons p es ih=>
  intro L i r hL he
  cases L with
  |nil=>simp at hL
  |cons e L=>
   simp only[List.map_cons,List.cons.injEq,Prod.mk.injEq]at hL
   obtain⟨⟨e1,e2⟩,hL⟩:=hL
   obtain⟨a,v⟩:=p
   have he':(match eq? K.P K.O h 8 key k a with
    |.ok (.lit true)=>.ok (some v)
    |.ok (.lit false)=>findA? K.P K.O h key k es
    |.ok _=>.error "a maps key open"
    |.error e=>.error e)=Except.ok r:=he
   unfold Instr.findNow
   rw[e1]
   split at he'
   ·rename_i hb
    cases he'
    rw[eq_now R hu hD hb]
    exact⟨_,rfl,fun{Q} hq=>by rw[e2];exact hq i⟩
   ·rename_i hb
    rw[eq_now R hu hD hb]
    exact ih hL he'
   ·cases he'
   ·cases he'
theorem wq_findKey(R:Rel K ρ h w){E:Value->World->Prop}{key:TypeId}{k:AV}{es:List (AV×AV)}{L:List MapEntry}{r:Option AV}(hk:keyOk? K.P key=true)(hL:L.map (fun e=>(e.key,e.val))=es.map (fun p=>(p.1.ev ρ,p.2.ev ρ)))
 (he:findA? K.P K.O h key k es=.ok r){Q:Option (Nat×Value)->World->Prop}(hq:Found ρ w Q r):wq K.P K.Ev E (Instr.findKey key (k.ev ρ) L) Q w:=by
 unfold keyOk? at hk
 split at hk
 ·rename_i e hu
  simp only[Instr.findKey,wq_bind,wq_underlying hu]
  cases L with
  |nil=>
   have:es=[]:=by simpa using hL.symm
   subst this
   cases he
   exact hq
  |cons x L=>
   have:Instr.findNow (.pointer e) (k.ev ρ) (x::L) 0=none:=by
    simp[Instr.findNow,Instr.sameNow]
   rw[this]
   exact wq_findAsking R hL he hq
 ·rename_i hu
  simp only[Instr.findKey,wq_bind,wq_underlying hu]
  obtain⟨q,e,hq'⟩:=find_now (i:=0) R hu (.inl rfl) hL he
  rw[e]
  exact hq' hq
 ·rename_i kk hu
  simp only[Instr.findKey,wq_bind,wq_underlying hu]
  obtain⟨q,e,hq'⟩:=find_now (i:=0) R hu (.inr ⟨_,rfl⟩) hL he
  rw[e]
  exact hq' hq
 ·cases hk
theorem keySize?_ok{P:Program}{key:TypeId}(hk:keySize? P key=true):∃e n,P.underlying key=some (.pointer e)∧sizeOf? P e=.ok n∧n≠0:=by
 unfold keySize? at hk
 split at hk
 ·rename_i e hu
  split at hk
  ·rename_i n hs
   refine⟨e,n,hu,hs,fun h=>?_⟩
   subst h
   cases hk
  ·cases hk
 ·cases hk
theorem keySize?_key{P:Program}{key:TypeId}(hk:keySize? P key=true):keyOk? P key=true:=by
 obtain⟨e,n,hu,_⟩:=keySize?_ok hk
 unfold keyOk?
 rw[hu]
theorem wq_equalV{E:Value->World->Prop}{key:TypeId}(hk:keySize? K.P key=true){b m n:Nat}{Q:Bool->World->Prop}(hq:Q (m==n) w):wq K.P K.Ev E (Op.equal key (.pointer (some ⟨b,m,none⟩)) (.pointer (some ⟨b,n,none⟩))) Q w:=by
 obtain⟨e,k,hu,hs,h0⟩:=keySize?_ok hk
 have key':∀D,wq K.P K.Ev E (Op.equalIn (D+1) key (.pointer (some ⟨b,m,none⟩)) (.pointer (some ⟨b,n,none⟩))) Q w:=fun D=>by
  simp only[Op.equalIn,wq_bind,wq_underlying hu,wq_sizeOf hs]
  rw[if_pos h0]
  exact wq_sameAddr_eq hq
 exact key' 9999
theorem wq_findAskingV{E:Value->World->Prop}{key:TypeId}(hk:keySize? K.P key=true){a:AA}{r:Option AV}:∀{es:List (Value×Value)} {L:List MapEntry} {i:Nat},L.map (fun e=>(e.key,e.val))=es->KeyIs ρ es a r->∀{Q:Option (Nat×Value)->World->Prop},Found ρ w Q r->
  wq K.P K.Ev E (Instr.findAsking key (.pointer (some (a.ev ρ))) L i) Q w:=by
 intro es
 induction es with
 |nil=>
  intro L i hL hK Q hq
  obtain rfl:L=[]:=by simpa using hL
  obtain⟨_,h2⟩:=hK
  cases r with
  |none=>exact hq
  |some v=>
   obtain⟨E1,E2,h3,_⟩:=h2
   simp at h3
 |cons p es ih=>
  intro L i hL hK Q hq
  cases L with
  |nil=>simp at hL
  |cons e L=>
   simp only[List.map_cons,List.cons.injEq]at hL
   obtain⟨rfl,hL⟩:=hL
   obtain⟨h1,h2⟩:=hK
   obtain⟨off,ho⟩:=h1 _ (List.mem_cons_self ..)
   dsimp only at ho
   have ea:a.ev ρ=⟨(a.ev ρ).block,(a.ev ρ).off,none⟩:=by unfold AA.ev;rfl
   simp only[Instr.findAsking,wq_bind,ho]
   rw[ea]
   refine wq_equalV hk ?_
   have rest:(e.key≠.pointer (some (a.ev ρ))->KeyIs ρ es a r):=fun hne=>by
    refine⟨fun q hq=>h1 q (List.mem_cons_of_mem _ hq),?_⟩
    cases r with
    |none=>exact fun q hq=>h2 q (List.mem_cons_of_mem _ hq)
    |some v=>
     obtain⟨E1,E2,h3,h4⟩:=h2
     cases E1 with
     |nil=>
      simp only[List.nil_append,List.cons.injEq,Prod.mk.injEq]at h3
      exact absurd h3.1.1 hne
     |cons q E1=>
      simp only[List.cons_append,List.cons.injEq]at h3
      exact⟨E1,E2,h3.2,fun q' hq'=>h4 q' (List.mem_cons_of_mem _ hq')⟩
   by_cases hoff:(a.ev ρ).off=off
   ·have hkey:e.key=.pointer (some (a.ev ρ)):=by rw[ho,<-hoff,<-ea]
    have hb:((a.ev ρ).off==off)=true:=by simpa using hoff
    rw[hb]
    simp only[if_true,wq_pure]
    cases r with
    |none=>exact absurd hkey (h2 _ (List.mem_cons_self ..))
    |some v=>
     obtain⟨E1,E2,h3,h4⟩:=h2
     cases E1 with
     |nil=>
      simp only[List.nil_append,List.cons.injEq,Prod.mk.injEq]at h3
      rw[h3.1.2]
      exact hq i
     |cons q E1=>
      simp only[List.cons_append,List.cons.injEq]at h3
      exact absurd (by rw[<-h3.1];exact hkey) (h4 q (List.mem_cons_self ..))
   ·have hb:((a.ev ρ).off==off)=false:=by simpa using hoff
    rw[hb]
    simp only[Bool.false_eq_true,if_false]
    rw[<-ea]
    refine ih hL (rest fun hx=>hoff ?_) hq
    rw[ho]at hx
    simp only[Value.pointer.injEq,Option.some.injEq]at hx
    rw[<-hx]
theorem wq_findKeyV{E:Value->World->Prop}{key:TypeId}(hk:keySize? K.P key=true){a:AA}{r:Option AV}{L:List MapEntry}(hK:KeyIs ρ (L.map fun e=>(e.key,e.val)) a r){Q:Option (Nat×Value)->World->Prop}(hq:Found ρ w Q r):wq K.P K.Ev E (Instr.findKey key (.pointer (some (a.ev ρ))) L) Q w:=by
 obtain⟨e,n,hu,_⟩:=keySize?_ok hk
 simp only[Instr.findKey,wq_bind,wq_underlying hu]
 cases L with
 |nil=>
  obtain⟨_,h2⟩:=hK
  cases r with
  |none=>exact hq
  |some v=>
   obtain⟨E1,E2,h3,_⟩:=h2
   simp at h3
 |cons x L=>
  have:Instr.findNow (.pointer e) (.pointer (some (a.ev ρ))) (x::L) 0=none:=by
   simp[Instr.findNow,Instr.sameNow]
  rw[this]
  exact wq_findAskingV hk rfl hK hq
theorem lookF_mem{a:AA}{r:Option AV}:∀{fs:List (AA×Option AV)},lookF a fs=some r->(a,r)∈fs
 |[],h=>by cases h
 |p::l,h=>by
  have h':(match a.eqb p.1 with
   |true=>some p.2
   |false=>lookF a l)=some r:=h
  split at h'
  ·rename_i he
   cases h'
   rw[AA.eqb_eq he]
   exact List.mem_cons_self ..
  ·exact List.mem_cons_of_mem _ (lookF_mem h')
theorem is_vmap{P:Program}{s:Nat}{n:IE}{fs:List (AA×Option AV)}{ws:List (AV×AV)}{o:Obj}(h:(ABlk.vmap s n fs ws).is P ρ o):∃arr clk E,o=.map arr clk∧ρ.v s=encE E∧E.length=(n.ev ρ).toNat∧arr.toList.map (fun e=>(e.key,e.val))=E++ws.map (fun p=>(p.1.ev ρ,p.2.ev ρ))∧∀p∈fs,KeyIs ρ E p.1 p.2:=by
 rcases h with⟨arr,_,h⟩|h
 ·exact h.elim
 ·exact h
theorem lookV?_ok{key:TypeId}{x k:AV}{r:Option AV}(he:lookV? K.P h key x k=some r):∃i s n fs a,x=.map (some (.dyn i))∧findB i h.hp=some (.vmap s n fs [])∧k=.ptr (some a)∧keySize? K.P key=true∧(a,r)∈fs:=by
 unfold lookV? at he
 split at he
 ·rename_i i
  split at he
  ·rename_i s n fs ws hb
   split at he
   ·rename_i a hs
    exact⟨i,s,n,fs,a,rfl,hb,rfl,hs,lookF_mem he⟩
   ·cases he
  ·cases he
 ·cases he
theorem wq_checkKey{E:Value->World->Prop}{key:TypeId}{k:Value}{b:Bool}(hk:keyOk? K.P key=true){Q:Unit->World->Prop}(hq:Q () w):wq K.P K.Ev E (Instr.checkKey b 10000 key k) Q w:=by
 unfold keyOk? at hk
 split at hk
 ·rename_i e hu
  unfold Instr.checkKey
  simp only[wq_bind,wq_underlying hu]
  cases k<;>exact hq
 ·rename_i hu
  unfold Instr.checkKey
  simp only[wq_bind,wq_underlying hu]
  cases k<;>exact hq
 ·rename_i kk hu
  unfold Instr.checkKey
  simp only[wq_bind,wq_underlying hu]
  cases k<;>exact hq
 ·cases hk
theorem entries?_run(R:Rel K ρ h w)(G:K.Good){x:AV}{es:List (AV×AV)}(he:entries? h x=.ok es):(x=.map none∧es=[])∨∃i arr clk,x=.map (some (.dyn i))∧findB i h.hp=some (.map es)∧w.heap[ρ.b i]?=some (.map arr clk)∧arr.toList.map (fun e=>(e.key,e.val))=es.map fun p=>(p.1.ev ρ,p.2.ev ρ):=by
 unfold entries? at he
 split at he
 ·cases he;exact .inl ⟨rfl,rfl⟩
 ·rename_i i
  split at he
  ·rename_i es' hb
   cases he
   obtain⟨o,h1,h2⟩:=R.blk _ _ hb
   obtain⟨arr,clk,rfl,h3⟩:=is_map h2
   exact .inr ⟨i,arr,clk,rfl,hb,h1,h3⟩
  ·cases he
 ·cases he
theorem wq_lookup(R:Rel K ρ h w)(G:K.Good){E:Value->World->Prop}{t:TypeId}{x k v:AV}{ok:Bool}(he:lookup? K.P K.O h t x k ok=.ok v){Q:Value->World->Prop}(hq:Q (v.ev ρ) w):wq K.P K.Ev E (Instr.lookup t (x.ev ρ) (k.ev ρ) ok) Q w:=by
 unfold lookup? at he
 split at he
 ·rename_i key elem hu
  split at he
  ·rename_i r hv
   obtain⟨i,s,n,fs,a,rfl,hb,rfl,hks,hmem⟩:=lookV?_ok hv
   obtain⟨o,h1,h2⟩:=R.blk _ _ hb
   obtain⟨arr,clk,L,rfl,h3,h4,h5,h6⟩:=is_vmap h2
   have hK:KeyIs ρ (arr.toList.map fun e=>(e.key,e.val)) a r:=by
    rw[h5,List.map_nil,List.append_nil]
    exact h6 _ hmem
   simp only[Instr.lookup,wq_bind,wq_underlying hu,AV.ev,Option.map_some,BR.ev,wq_pure]
   refine wq_getObj h1 (by intros;simp) (G.obj _ _ _ (R.own _ _ hb rfl)) ?_
   simp only[wq_bind,wq_pure]
   refine wq_checkKey (keySize?_key hks) ?_
   split at he
   ·rename_i u
    cases he
    refine wq_findKeyV hks hK ?_
    intro j
    simp only[wq_pure]
    cases ok<;>exact hq
   ·split at he
    ·rename_i z hz
     cases he
     refine wq_findKeyV hks hK ?_
     show wq K.P K.Ev E (zeroValue elem>>= _) Q w
     rw[wq_bind,wq_zeroValue (ρ:=ρ) hz]
     cases ok<;>exact hq
    ·cases he
  split at he
  ·rename_i hk
   split at he
   ·rename_i es hes
    have rest:∀{arr:Array MapEntry},arr.toList.map (fun e=>(e.key,e.val))=es.map (fun p=>(p.1.ev ρ,p.2.ev ρ))->
      wq K.P K.Ev E (do
       Instr.checkKey arr.isEmpty 10000 key (k.ev ρ)
       let(v,b)<-match<-Instr.findKey key (k.ev ρ) arr.toList with
        |some (_,v)=>pure (v,true)
        |none=>pure (<-zeroValue elem,false)
       pure (if ok then .tuple #[v,.bool b]else v)) Q w:=by
     intro arr hL
     rw[wq_bind]
     refine wq_checkKey hk ?_
     rw[wq_bind]
     split at he
     ·rename_i u hf
      cases he
      refine wq_findKey R hk hL hf ?_
      intro j
      simp only[wq_pure]
      cases ok<;>exact hq
     ·rename_i hf
      split at he
      ·rename_i z hz
       cases he
       refine wq_findKey R hk hL hf ?_
       show wq K.P K.Ev E (zeroValue elem>>= _) Q w
       rw[wq_bind,wq_zeroValue (ρ:=ρ) hz]
       cases ok<;>exact hq
      ·cases he
     ·cases he
    rcases entries?_run R G hes with⟨rfl,rfl⟩|⟨i,arr,clk,rfl,hb,hw,hL⟩
    ·simp only[Instr.lookup,wq_bind,wq_underlying hu,AV.ev,Option.map_none,wq_pure]
     have:=rest (arr:=#[]) rfl
     simp only[wq_bind,wq_pure]at this
     exact this
    ·simp only[Instr.lookup,wq_bind,wq_underlying hu,AV.ev,Option.map_some,BR.ev,wq_pure]
     refine wq_getObj hw (by intros;simp) (G.obj _ _ _ (R.own _ _ hb rfl)) ?_
     have:=rest hL
     simp only[wq_bind,wq_pure]at this⊢
     exact this
   ·cases he
  ·cases he
 ·cases he
theorem findA?_in{P:Program}{O:Orc}{key:TypeId}{k v:AV}:∀{es:List (AV×AV)},(∀p∈es,p.1.In U∧p.2.In U)->findA? P O h key k es=.ok (some v)->v.In U:=by
 intro es
 induction es with
 |nil=>intro _ he;cases he
 |cons p es ih=>
  intro hi he
  obtain⟨a,u⟩:=p
  have he':(match eq? P O h 8 key k a with
    |.ok (.lit true)=>.ok (some u)
    |.ok (.lit false)=>findA? P O h key k es
    |.ok _=>.error "a maps key open"
    |.error e=>.error e)=Except.ok (some v):=he
  split at he'
  ·cases he';exact(hi _ (List.mem_cons_self ..)).2
  ·exact ih (fun p hp=>hi p (List.mem_cons_of_mem _ hp)) he'
  ·cases he'
  ·cases he'
theorem lookup?_in(I:Ids K U h){t:TypeId}{x k v:AV}{ok:Bool}(he:lookup? K.P K.O h t x k ok=.ok v):v.In U:=by
 have hb':∀{u:AV} {b:Bool},u.In U->(if ok then AV.tuple [u,.bool (.lit b)]else u).In U:=fun hu=>by
  cases ok
  ·exact hu
  ·exact⟨hu,trivial,trivial⟩
 unfold lookup? at he
 split at he
 ·split at he
  ·rename_i r hv
   obtain⟨i,s,n,fs,a,rfl,hb,rfl,hks,hmem⟩:=lookV?_ok hv
   split at he
   ·rename_i u
    cases he
    exact hb' ((I.hp _ _ hb).2.1 _ hmem).2
   ·split at he
    ·rename_i z hz
     cases he
     exact hb' (zero?_in hz)
    ·cases he
  split at he
  ·split at he
   ·rename_i es hes
    split at he
    ·rename_i u hf
     cases he
     refine hb' (findA?_in (fun p hp=>?_) hf)
     unfold entries? at hes
     split at hes
     ·cases hes;cases hp
     ·split at hes
      ·rename_i hbk
       cases hes
       exact I.hp _ _ hbk p hp
      ·cases hes
     ·cases hes
    ·split at he
     ·rename_i z hz
      cases he
      exact hb' (zero?_in hz)
     ·cases he
    ·cases he
   ·cases he
  ·cases he
 ·cases he
theorem Rel.setO(R:Rel K ρ h w){i:Nat}{b b':ABlk}{o':Obj}(hb:findB i h.hp=some b)(ho:b'.is K.P ρ o')(hbc:b.isChan=false)(hl:∀n,b.lentAt K.P ρ n->b'.lentAt K.P ρ n):
  Rel K ρ {h with hp:=setB i b' h.hp} {w with heap:=w.heap.setIfInBounds (ρ.b i) o'}∧Keeps K.own w {w with heap:=w.heap.setIfInBounds (ρ.b i) o'}:=by
 have hown:=R.own _ _ hb hbc
 obtain⟨o,h1,_⟩:=R.blk _ _ hb
 have hlt:=heap_lt h1
 have hne:∀m,m≠ρ.b i->(w.heap.setIfInBounds (ρ.b i) o')[m]?=w.heap[m]?:=fun m hm=>Array.getElem?_setIfInBounds_ne (fun e=>hm e.symm)
 refine⟨⟨fun j c hj=>?_,fun j c hj=>?_,fun j k c d hj hk e=>?_,R.bs,R.is,fun p hp=>?_,fun m hm=>R.room m (by simpa using hm),fun j c hj m hm=>?_,fun b m hm=>by have:=R.low b m hm;simpa using this⟩,⟨fun m hm=>hne m (fun e=>hm (e▸hown)),by simp,rfl,rfl,rfl⟩⟩
 ·rw[findB_setB]at hj
  split at hj
  ·rename_i e;subst e
   rw[hb]at hj;cases hj
   exact⟨o',by simp[hlt],ho⟩
  ·rename_i e
   obtain⟨o2,ha',hf'⟩:=R.blk _ _ hj
   refine⟨o2,?_,hf'⟩
   show(w.heap.setIfInBounds (ρ.b i) o')[_]?=_
   rw[hne _ (fun x=>e (R.inj _ _ _ _ hj hb x)),ha']
 ·rw[findB_setB]at hj
  split at hj
  ·rename_i e;subst e;exact .inl hown
  ·exact R.own' _ _ hj
 ·rw[findB_setB]at hj hk
  split at hj<;>split at hk
  ·rename_i e1 e2;exact e1.trans e2.symm
  ·rename_i e1 e2;subst e1;exact R.inj _ _ _ _ hb hk e
  ·rename_i e1 e2;subst e2;exact R.inj _ _ _ _ hj hb e
  ·exact R.inj _ _ _ _ hj hk e
 ·obtain⟨m1,m2,m3⟩:=R.mem p hp
  refine⟨m1,?_,m3⟩
  simp only[World.cell?]at m2⊢
  rw[hne _ (fun x=>m1 (by rw[x];exact hown))];exact m2
 ·rw[findB_setB]at hj
  split at hj
  ·rename_i e;subst e
   rw[hb]at hj;cases hj
   exact hl m (R.lent _ _ hb m hm)
  ·exact R.lent _ _ hj m hm
theorem mapUpdate?_ids(I:Ids K U h){t:TypeId}{x k v:AV}{h':AH}(hk:k.In U)(hv:v.In U)(he:mapUpdate? K.P K.O h t x k v=.ok h'):Ids K U h'∧h'.nb=h.nb∧h'.lim=h.lim:=by
 unfold mapUpdate? at he
 split at he
 ·split at he
  ·rename_i es hb
   split at he
   ·split at he
    ·cases he
     refine⟨⟨fun j c hj=>?_,fun j hj=>I.keys j (by rw[keys_setB]at hj;exact hj),by rw[keys_setB];exact I.nodup,I.fresh,I.orc⟩,rfl,rfl⟩
     rw[findB_setB]at hj
     split at hj
     ·rw[hb]at hj;cases hj
      intro p hp
      rcases List.mem_append.1 hp with hp|hp
      ·exact I.hp _ _ hb p hp
      ·obtain rfl:=List.mem_singleton.1 hp
       exact⟨hk,hv⟩
     ·exact I.hp _ _ hj
    ·cases he
    ·cases he
   ·cases he
  ·rename_i s n fs ws hb
   split at he
   ·cases he
    refine⟨⟨fun j c hj=>?_,fun j hj=>I.keys j (by rw[keys_setB]at hj;exact hj),by rw[keys_setB];exact I.nodup,I.fresh,I.orc⟩,rfl,rfl⟩
    rw[findB_setB]at hj
    split at hj
    ·rw[hb]at hj;cases hj
     obtain⟨i1,i2,i3⟩:=I.hp _ _ hb
     refine⟨i1,i2,fun p hp=>?_⟩
     rcases List.mem_append.1 hp with hp|hp
     ·exact i3 p hp
     ·obtain rfl:=List.mem_singleton.1 hp
      exact⟨hk,hv⟩
    ·exact I.hp _ _ hj
   ·cases he
  ·cases he
 ·cases he
theorem wq_mapUpdate(R:Rel K ρ h w)(G:K.Good){E:Value->World->Prop}{t:TypeId}{x k v:AV}{h':AH}(he:mapUpdate? K.P K.O h t x k v=.ok h'){Q:Unit->World->Prop}(hq:∀w',Rel K ρ h' w'->Keeps K.own w w'->Q () w'):wq K.P K.Ev E (Instr.mapUpdate t (x.ev ρ) (k.ev ρ) (v.ev ρ)) Q w:=by
 unfold mapUpdate? at he
 split at he
 ·rename_i key elem i hu
  split at he
  ·rename_i es hb
   split at he
   ·rename_i hk
    split at he
    ·rename_i hf
     cases he
     obtain⟨o,h1,h2⟩:=R.blk _ _ hb
     obtain⟨arr,clk,rfl,h3⟩:=is_map h2
     have own:=R.own _ _ hb rfl
     simp only[Instr.mapUpdate,wq_bind,wq_underlying hu,AV.ev,Option.map_some,BR.ev]
     refine wq_getObj h1 (by intros;simp) (G.obj _ _ _ own) ?_
     simp only[wq_bind]
     refine wq_checkKey hk ?_
     refine wq_findKey R hk h3 hf ?_
     refine wq_setObj h1 (by intros;simp) (G.obj _ _ _ own) ?_
     obtain⟨r1,r2⟩:=R.setO hb (b':=.map (es++[(k,v)])) (o':=.map (arr.push {key:=k.ev ρ,val:=v.ev ρ,born:=clk}) (clk+1)) (.inr ⟨_,_,rfl,by simp[h3]⟩) rfl (fun n hn=>by cases hn)
     exact hq _ r1 r2
    ·cases he
    ·cases he
   ·cases he
  ·rename_i s n fs ws hb
   split at he
   ·rename_i hv
    cases he
    obtain⟨i',s',n',fs',a,hx,hb',rfl,hks,hmem⟩:=lookV?_ok hv
    cases hx
    rw[hb]at hb'
    cases hb'
    obtain⟨o,h1,h2⟩:=R.blk _ _ hb
    obtain⟨arr,clk,L,rfl,h3,h4,h5,h6⟩:=is_vmap h2
    have own:=R.own _ _ hb rfl
    have hK:KeyIs ρ (arr.toList.map fun e=>(e.key,e.val)) a none:=by
     rw[h5,List.map_nil,List.append_nil]
     exact h6 _ hmem
    simp only[Instr.mapUpdate,wq_bind,wq_underlying hu,AV.ev,Option.map_some,BR.ev]
    refine wq_getObj h1 (by intros;simp) (G.obj _ _ _ own) ?_
    simp only[wq_bind]
    refine wq_checkKey (keySize?_key hks) ?_
    refine wq_findKeyV hks hK ?_
    refine wq_setObj h1 (by intros;simp) (G.obj _ _ _ own) ?_
    obtain⟨r1,r2⟩:=R.setO hb (b':=.vmap s n fs ([]++[(.ptr (some a),v)])) (o':=.map (arr.push {key:=.pointer (some (a.ev ρ)),val:=v.ev ρ,born:=clk}) (clk+1)) (.inr ⟨_,_,L,rfl,h3,h4,by simp[h5,AV.ev],h6⟩) rfl (fun n hn=>by cases hn)
    exact hq _ r1 r2
   ·cases he
  ·cases he
 ·cases he
end
def ATarget.ev(ρ:Env):ATarget->Target
 |.fn f c=>.fn f (AV.evs ρ c).toArray
 |.builtin b a t c=>.builtin b a t c
def AD.ev(ρ:Env)(d:AD):Deferred:={target:=d.target.ev ρ,args:=(AV.evs ρ d.args).toArray}
def ATarget.In(U:Nat->Prop):ATarget->Prop
 |.fn _ c=>AV.Ins U c
 |.builtin _ _ _ _=>True
def AD.In(U:Nat->Prop)(d:AD):Prop:=d.target.In U∧AV.Ins U d.args
def AN.is(ρ:Env):AN->Next->Prop
 |.value v,nx=>nx=.value (v.ev ρ)
 |.skip,nx=>nx=.skip
 |.enter f args,nx=>nx=.enter f (AV.evs ρ args).toArray
 |.defer d,nx=>nx=.defer (d.ev ρ)
 |.recover,nx=>nx=.recover
 |.panic _,_=>False
def AN.In(U:Nat->Prop):AN->Prop
 |.value v=>v.In U
 |.skip=>True
 |.enter _ args=>AV.Ins U args
 |.defer d=>d.In U
 |.recover=>True
 |.panic v=>v.In U
structure NOk(K:Ctx)(U:Nat->Prop)(ρ:Env)(h:AH)(w:World)(s:Sem Next)(n:AN)(h':AH):Prop where
 mem:n.In (plus U h.nb h'.nb)
 grows:Grows K U h h'
 run:∀{E:Value->World->Prop} {Q:Next->World->Prop},(∀nx w',After K U ρ w h' (fun ρ'=>n.is ρ' nx) w'->Q nx w')->(∀v,n=.panic v->h'=h->E (v.ev ρ) w)->wq K.P K.Ev E s Q w
section
variable {K:Ctx}{ρ:Env}{h:AH}{w:World}{U:Nat->Prop}
theorem valOp_ok{r:M AV}{n:AN}{h':AH}(he:valOp r h=.ok (n,h')):∃v,r=.ok v∧n=.value v∧h'=h:=by
 unfold valOp at he
 split at he
 ·cases he;exact⟨_,rfl,rfl,rfl⟩
 ·cases he
theorem allocOp_ok{r:M (AV×AH)}{n:AN}{h':AH}(he:allocOp r=.ok (n,h')):∃v,r=.ok (v,h')∧n=.value v:=by
 unfold allocOp at he
 split at he
 ·cases he;exact⟨_,rfl,rfl⟩
 ·cases he
theorem skipOp_ok{r:M AH}{n:AN}{h':AH}(he:skipOp r=.ok (n,h')):r=.ok h'∧n=.skip:=by
 unfold skipOp at he
 split at he
 ·cases he;exact⟨rfl,rfl⟩
 ·cases he
theorem HOk.next{s:Sem Value}{v:AV}{h':AH}(H:HOk K U ρ h w s v h'):NOk K U ρ h w (do Pure.pure (.value (<-s))) (.value v) h':=
 ⟨H.mem,H.grows,fun hq _=>by
  simp only[wq_bind,wq_pure]
  exact H.run fun x w' ⟨ρ',a1,a2,a3,a4⟩=>hq _ _ ⟨ρ',a1,a2,a3,by rw[a4];rfl⟩⟩
theorem NOk.pure(R:Rel K ρ h w)(I:Ids K U h){s:Sem Value}{v:AV}(hi:v.In U)(hw:∀{E Q:Value->World->Prop},Q (v.ev ρ) w->wq K.P K.Ev E s Q w):NOk K U ρ h w (do Pure.pure (.value (<-s))) (.value v) h:=
 (HOk.pure R I hi hw).next
theorem wq_len{E:Value->World->Prop}{argTypes:Array TypeId}{ty t:TypeId}{x:AV}{e:IE}(ht:argTypes[0]?=some t)(R:Rel K ρ h w)(G:K.Good)(he:lenOf? K.P h t x=.ok e){Q:Value->World->Prop}(hq:Q (.int .i64 (e.ev ρ)) w):
  wq K.P K.Ev E (Builtin.len_ argTypes ty #[x.ev ρ]) Q w:=by
 unfold lenOf? at he
 simp only[bind_ok]at he
 obtain⟨D,hD,he⟩:=he
 simp only[Builtin.len_,ht,List.getElem?_toArray,List.getElem?_cons_zero,wq_bind,wq_underlying (under?_ok hD)]
 split at he
 ·rw[pure_ok]at he;subst he;exact hq
 ·rw[pure_ok]at he;subst he;exact hq
 ·rw[pure_ok]at he;subst he
  simp only
  exact hq
 ·rw[pure_ok]at he;subst he;exact hq
 ·rw[pure_ok]at he;subst he;exact hq
 ·rw[pure_ok]at he;subst he;exact hq
 ·rw[pure_ok]at he;subst he;exact hq
 ·rename_i i
  split at he
  ·rename_i es hb
   rw[pure_ok]at he;subst he
   obtain⟨o,h1,h2⟩:=R.blk _ _ hb
   obtain⟨arr,clk,rfl,h3⟩:=is_map h2
   simp only[AV.ev,Option.map_some,BR.ev,wq_bind]
   refine wq_getObj h1 (by intros;simp) (G.obj _ _ _ (R.own _ _ hb rfl)) ?_
   have:arr.size=es.length:=by have:=congrArg List.length h3;simpa using this
   simp only[this]
   exact hq
  ·rename_i s n fs ws hb
   split at he
   ·rw[pure_ok]at he;subst he
    obtain⟨o,h1,h2⟩:=R.blk _ _ hb
    obtain⟨arr,clk,L,rfl,h3,h4,h5,h6⟩:=is_vmap h2
    simp only[AV.ev,Option.map_some,BR.ev,wq_bind]
    refine wq_getObj h1 (by intros;simp) (G.obj _ _ _ (R.own _ _ hb rfl)) ?_
    have:arr.size=(n.ev ρ).toNat:=by
     have:=congrArg List.length h5
     rw[<-h4]
     simpa using this
    simp only[this]
    exact hq
   ·cases he
  ·cases he
 ·cases he
theorem lenOf?_in(I:Ids K U h){t:TypeId}{x:AV}{e:IE}(he:lenOf? K.P h t x=.ok e)(hx:x.In U):e.In U:=by
 unfold lenOf? at he
 simp only[bind_ok]at he
 obtain⟨D,hD,he⟩:=he
 split at he
 ·rw[pure_ok]at he;subst he;trivial
 ·rw[pure_ok]at he;subst he;trivial
 ·rw[pure_ok]at he;subst he;trivial
 ·rw[pure_ok]at he;subst he;exact hx.2.1
 ·rw[pure_ok]at he;subst he;trivial
 ·rw[pure_ok]at he;subst he;trivial
 ·rw[pure_ok]at he;subst he;trivial
 ·split at he
  ·rw[pure_ok]at he;subst he;trivial
  ·rename_i s n fs ws hb
   split at he
   ·rw[pure_ok]at he;subst he;exact(I.hp _ _ hb).1
   ·cases he
  ·cases he
 ·cases he
theorem wq_min(R:Rel K ρ h w){E:Value->World->Prop}:∀{l:List AV} {x v:AV},minMax? K.O false x l=.ok v->∀{Q:Value->World->Prop},Q (v.ev ρ) w->wq K.P K.Ev E ((AV.evs ρ l).foldlM Builtin.min2 (x.ev ρ)) Q w:=by
 intro l
 induction l with
 |nil=>intro x v he Q hq;simp[minMax?]at he;subst he;exact hq
 |cons y l ih=>
  intro x v he Q hq
  unfold minMax? at he
  split at he
  ·rename_i hnil;cases hnil
  ·rename_i k x' k' y' l' hl
   cases hl
   split at he
   ·rename_i hk;subst hk
    simp only[bind_ok]at he
    obtain⟨t,ht,he⟩:=he
    have hd:=dec_ev R ht
    simp only[Bool.false_eq_true,if_false,BE.ev,icmp]at hd
    simp only[AV.evs,List.foldlM_cons,wq_bind,AV.ev,Builtin.min2,wq_pure]
    have:=ih he hq
    simp only[AV.ev]at this
    by_cases hlt:y'.ev ρ<x'.ev ρ
    ·rw[if_pos hlt]
     have ht':t=true:=by rw[<-hd];exact decide_eq_true hlt
     subst ht';exact this
    ·rw[if_neg hlt]
     have ht':t=false:=by rw[<-hd];exact decide_eq_false hlt
     subst ht';exact this
   ·cases he
  ·cases he
theorem wq_max(R:Rel K ρ h w){E:Value->World->Prop}:∀{l:List AV} {x v:AV},minMax? K.O true x l=.ok v->∀{Q:Value->World->Prop},Q (v.ev ρ) w->wq K.P K.Ev E ((AV.evs ρ l).foldlM Builtin.max2 (x.ev ρ)) Q w:=by
 intro l
 induction l with
 |nil=>intro x v he Q hq;simp[minMax?]at he;subst he;exact hq
 |cons y l ih=>
  intro x v he Q hq
  unfold minMax? at he
  split at he
  ·rename_i hnil;cases hnil
  ·rename_i k x' k' y' l' hl
   cases hl
   split at he
   ·rename_i hk;subst hk
    simp only[bind_ok]at he
    obtain⟨t,ht,he⟩:=he
    have hd:=dec_ev R ht
    simp only[if_true,BE.ev,icmp]at hd
    simp only[AV.evs,List.foldlM_cons,wq_bind,AV.ev,Builtin.max2,wq_pure]
    have:=ih he hq
    simp only[AV.ev]at this
    by_cases hlt:y'.ev ρ>x'.ev ρ
    ·rw[if_pos hlt]
     have ht':t=true:=by rw[<-hd];exact decide_eq_true hlt
     subst ht';exact this
    ·rw[if_neg hlt]
     have ht':t=false:=by rw[<-hd];exact decide_eq_false hlt
     subst ht';exact this
   ·cases he
  ·cases he
theorem minMax?_in{O:Orc}{mx:Bool}:∀{l:List AV} {x v:AV},minMax? O mx x l=.ok v->x.In U->AV.Ins U l->v.In U:=by
 intro l
 induction l with
 |nil=>intro x v he hx _;simp[minMax?]at he;subst he;exact hx
 |cons y l ih=>
  intro x v he hx hl
  unfold minMax? at he
  split at he
  ·rename_i hnil;cases hnil
  ·rename_i k x' k' y' l' hl'
   cases hl'
   split at he
   ·simp only[bind_ok]at he
    obtain⟨t,ht,he⟩:=he
    refine ih he ?_ hl.2
    cases t
    ·exact hx
    ·exact hl.1
   ·cases he
  ·cases he
theorem copy?_ok(G:K.Good)(R:Rel K ρ h w)(I:Ids K U h){argTypes:Array TypeId}{ty:TypeId}{d s v:AV}{h':AH}(hdi:d.In U)(he:copy? K.P K.O h argTypes d s=.ok (v,h')):HOk K U ρ h w (Builtin.copy_ argTypes ty #[d.ev ρ,s.ev ρ]) v h':=by
 unfold copy? at he
 split at he
 ·rename_i dType h0
  simp only[bind_ok]at he
  obtain⟨D,hD,he⟩:=he
  split at he
  ·rename_i elem
   simp only[bind_ok]at he
   obtain⟨size,hs,he⟩:=he
   split at he
   ·rename_i base dl c sb sl c2
    simp only[bind_ok]at he
    obtain⟨m,hm,n,hn,new,hnew,he⟩:=he
    obtain rfl:=litNat?_ok hm
    obtain rfl:=litNat?_ok hn
    have e0:(Int.ofNat m).toNat=m:=rfl
    have e1:(Int.ofNat n).toNat=n:=rfl
    have first:∀{E:Value->World->Prop} {Q':Array Value->World->Prop},Q' (AV.evs ρ new).toArray w->wq K.P K.Ev E (Builtin.firstCells size (Nat.min m n) (.slice (sb.map (AA.ev ρ)) m (c2.ev ρ).toNat)) Q' w:=by
     intro E Q' hq'
     unfold copyFrom? at hnew
     split at hnew
     ·simp only[Option.map_some,Builtin.firstCells,loadCells]
      exact loadN_sound R G hnew (by simpa using hq')
     ·cases hnew;exact hq'
    have hnin:AV.Ins U new:=by
     unfold copyFrom? at hnew
     split at hnew
     ·exact loadN_in I hnew
     ·cases hnew;trivial
    have front:∀{E:Value->World->Prop} {Q:Value->World->Prop},wq K.P K.Ev E (do
      if let some a:=base.map (AA.ev ρ)then storeCells a (AV.evs ρ new)
      Pure.pure (goInt (Nat.min m n:Nat)):Sem Value) Q w->wq K.P K.Ev E (Builtin.copy_ argTypes ty #[(AV.slice base (.lit (.ofNat n)) c).ev ρ,(AV.slice sb (.lit (.ofNat m)) c2).ev ρ]) Q w:=by
     intro E Q hq
     simp only[Builtin.copy_,h0,List.getElem?_toArray,List.getElem?_cons_zero,List.getElem?_cons_succ,wq_bind,wq_underlying (under?_ok hD),AV.ev,IE.ev,e0,e1,Builtin.lenOf,wq_pure,wq_sizeOf hs]
     refine first ?_
     exact hq
    unfold copyTo? at he
    split at he
    ·rename_i a
     split at he
     ·rename_i h2 hst
      cases he
      have hnb:=storeN_nb hst
      refine⟨trivial,Grows.of_same (storeN_ids hdi.1 I hst hnin) hnb.1 hnb.2,fun{E Q} hq=>front ?_⟩
      simp only[Option.map_some,wq_bind]
      refine storeN_sound G R hst fun w' r1 r2 _ _=>?_
      exact hq _ _ ⟨ρ,Agree.refl _ _,r1,r2,rfl⟩
     ·cases he
    ·cases he
     refine HOk.pure R I trivial fun{E Q} hq=>front ?_
     simp only[Option.map_none,wq_bind,wq_pure]
     exact hq
   ·cases he
  ·cases he
 ·cases he
theorem builtin?_ok(G:K.Good)(R:Rel K ρ h w)(I:Ids K U h){b:Builtin}{argTypes:Array TypeId}{ty:TypeId}{consts:Array Bool}{args:List AV}{n:AN}{h':AH}(ha:AV.Ins U args)(he:builtin? K.P K.O h b argTypes args=.ok (n,h')):
  NOk K U ρ h w (builtin b argTypes ty consts (AV.evs ρ args).toArray) n h':=by
 unfold builtin? at he
 split at he
 ·rename_i x
  split at he
  ·rename_i t ht
   split at he
   ·rename_i e hl
    cases he
    exact NOk.pure R I (v:=.int .i64 (K.O.int e)) (int_in I (lenOf?_in I hl ha.1)) fun{E Q} hq=>wq_len ht R G hl (by simpa only[AV.ev,int_ev R] using hq)
   ·cases he
  ·cases he
 ·rename_i a l c
  split at he
  ·rename_i t ht
   split at he
   ·rename_i elem hD
    cases he
    refine NOk.pure R I (v:=.int .i64 (K.O.int (.tn c))) (int_in I ha.1.2.2) fun{E Q} hq=>?_
    simp only[AV.ev,int_ev R,IE.ev]at hq
    simp only[AV.evs,AV.ev,Builtin.cap_,ht,List.getElem?_toArray,List.getElem?_cons_zero,wq_bind,wq_underlying (under?_ok hD),wq_pure]
    exact hq
   ·cases he
  ·cases he
 ·obtain⟨v,hv,rfl⟩:=allocOp_ok he
  exact(append?_ok G R I ha.1 ha.2.1 hv).next
 ·obtain⟨v,hv,rfl⟩:=allocOp_ok he
  exact(copy?_ok G R I ha.1 hv).next
 ·rename_i x l
  obtain⟨v,hv,rfl,rfl⟩:=valOp_ok he
  exact NOk.pure R I (minMax?_in hv ha.1 ha.2) fun{E Q} hq=>wq_min R hv hq
 ·rename_i x l
  obtain⟨v,hv,rfl,rfl⟩:=valOp_ok he
  exact NOk.pure R I (minMax?_in hv ha.1 ha.2) fun{E Q} hq=>wq_max R hv hq
 ·cases he
  exact⟨trivial,Grows.refl I,fun hq _=>hq _ _ (After.same R rfl)⟩
 ·rename_i t v
  cases he
  exact⟨AV.In.mono plus_sub (.iface t v) ha.1,Grows.refl I,fun hq hE=>hE _ rfl rfl⟩
 ·cases he
end
def fnOk(P:Program)(f:FuncId):Bool:=
 match P.funcs[f]? with
 |some fn=>!(fn.name== "runtime.NumGoroutine")&&fn.body.isSome
 |none=>false
structure ExtFact(P:Program)(f:FuncId)(e:Array Value->Sem Value):Prop where
 fact:∃fn,P.funcs[f]?=some fn∧(fn.name== "runtime.NumGoroutine")=false∧fn.body.isNone=true∧Extern.findNext fn=none∧Extern.find fn=some e
structure Ctx.Facts(K:Ctx):Prop where
 fns:K.O.fns.all (fnOk K.P)=true
 ext:∀p∈K.O.ext,ExtFact K.P p.1 p.2
 mixed:K.P.follows .mixedOrders=true
section
variable {K:Ctx}{ρ:Env}{h:AH}{w:World}{U:Nat->Prop}
theorem wq_enter{E:Value->World->Prop}{f:FuncId}{args:Array Value}(hf:fnOk K.P f=true){Q:Next->World->Prop}(hq:Q (.enter f args) w):wq K.P K.Ev E (callFunc f args) Q w:=by
 unfold fnOk at hf
 split at hf
 ·rename_i fn hfn
  simp only[Bool.and_eq_true,Bool.not_eq_true']at hf
  simp only[callFunc,wq_bind,wq_program,hfn]
  rw[if_neg (by rw[hf.1];simp),if_neg (by have:=hf.2;revert this;cases fn.body<;>simp)]
  exact hq
 ·cases hf
theorem wq_extern(G:K.Good){E:Value->World->Prop}{f:FuncId}{e:Array Value->Sem Value}{args:Array Value}(hf:ExtFact K.P f e){Q:Next->World->Prop}(hq:wq K.P K.Ev E (e args) (fun v w=>Q (.value v) w) w):wq K.P K.Ev E (callFunc f args) Q w:=by
 obtain⟨fn,h1,h2,h3,h4,h5⟩:=hf.fact
 simp only[callFunc,wq_bind,wq_program,h1]
 rw[if_neg (by rw[h2];simp),if_pos h3]
 simp only[wq_bind,wq_mark,h4,h5,wq_pure]
 exact⟨G.ext _ rfl,hq⟩
def ExtOk(K:Ctx)(ext:Ext):Prop:=∀{U:Nat->Prop} {ρ:Env} {h:AH} {w:World} {f:FuncId} {args:List AV} {v:AV} {h':AH},Rel K ρ h w->Ids K U h->AV.Ins U args->ext h f args=.ok (v,h')->
 NOk K U ρ h w (callFunc f (AV.evs ρ args).toArray) (.value v) h'
theorem invokeFn?_ok(G:K.Good)(F:K.Facts){ext:Ext}(X:ExtOk K ext)(R:Rel K ρ h w)(I:Ids K U h){f:FuncId}{args:List AV}{n:AN}{h':AH}(ha:AV.Ins U args)(he:invokeFn? K.P K.O ext h f args=.ok (n,h')):
  NOk K U ρ h w (callFunc f (AV.evs ρ args).toArray) n h':=by
 have viaExt:∀{r:M (AV×AH)},r=ext h f args->(match r with|.ok (v,h)=>(.ok (.value v,h):M (AN×AH))|.error e=>.error e)=.ok (n,h')->NOk K U ρ h w (callFunc f (AV.evs ρ args).toArray) n h':=by
  intro r hr hh
  split at hh
  ·cases hh;exact X R I ha hr.symm
  ·cases hh
 unfold invokeFn? at he
 split at he
 ·rename_i hc
  cases he
  have hf:fnOk K.P f=true:=List.all_eq_true.1 F.fns f (by simpa using hc)
  exact⟨AV.Ins.mono plus_sub _ ha,Grows.refl I,fun hq _=>wq_enter hf (hq _ _ (After.same R rfl))⟩
 ·split at he
  ·rename_i e hl
   obtain⟨x,hx,hxe⟩:=look_some hl
   have:f=x:=by simpa using hxe
   subst this
   split at he
   ·rename_i vs hvs
    split at he
    ·rename_i v hv
     cases he
     refine⟨ofValue_in _,Grows.refl I,fun hq _=>wq_extern G (F.ext _ hx) ?_⟩
     rw[vals?_evs ρ args hvs]
     exact wq_pureRun hv (hq _ _ (After.same R (by simp[AN.is,ofValue_ev])))
    ·exact viaExt rfl he
   ·exact viaExt rfl he
  ·exact viaExt rfl he
theorem wq_method{E:Value->World->Prop}{t:TypeId}{v r:AV}{name:String}{f:FuncId}(he:method? K.P t v name=.ok (f,r)){Q:FuncId×Value->World->Prop}(hq:Q (f,r.ev ρ) w):
  wq K.P K.Ev E (method (K.P.types.size+Made.depth) t (v.ev ρ) name) Q w:=by
 unfold method? at he
 split at he
 ·cases he
 ·rename_i i hi
  split at he
  ·cases he
  ·rename_i m hm
   split at he
   ·rename_i hp
    obtain⟨d,hd⟩:∃d,K.P.types.size+Made.depth=d+1:=⟨K.P.types.size+99,rfl⟩
    have hpe:m.path.toList=[]:=by simpa using hp
    rw[hd]
    simp only[method,wq_bind,wq_typeInfo hi,hm,hpe,follow,wq_pure]
    split at he
    ·rename_i f' hf
     split at he
     ·rename_i e hu
      cases he
      simp only[hf,receiverAt,wq_bind,wq_underlying hu,Place.get,wq_pure]
      exact hq
     ·cases he
    ·rename_i f' hf
     split at he
     ·cases he
     ·rename_i D hnp hu
      cases he
      simp only[hf,receiverAt,wq_bind,wq_underlying hu]
      cases D<;>first
       |exact absurd hu (hnp _)
       |exact hq
     ·cases he
    ·cases he
   ·split at he
    ·rename_i u hu
     split at he
     ·rename_i f' r' hr
      cases he
      rw[val?_ev ρ v hu]
      exact wq_pureRun hr (by simpa[ofValue_ev] using hq)
     ·cases he
    ·cases he
theorem method?_in{P:Program}{t:TypeId}{v r:AV}{name:String}{f:FuncId}(he:method? P t v name=.ok (f,r))(hv:v.In U):r.In U:=by
 unfold method? at he
 split at he
 ·cases he
 ·split at he
  ·cases he
  ·split at he
   ·split at he
    all_goals try (split at he)
    all_goals first|(cases he;exact hv)|cases he
   ·split at he
    ·split at he
     ·cases he;exact ofValue_in _
     ·cases he
    ·cases he
theorem invoke?_ok(G:K.Good)(F:K.Facts){ext:Ext}(X:ExtOk K ext)(R:Rel K ρ h w)(I:Ids K U h){d:AD}{n:AN}{h':AH}(hd:d.In U)(he:invoke? K.P K.O ext h d=.ok (n,h')):
  NOk K U ρ h w (invoke (d.target.ev ρ) (AV.evs ρ d.args).toArray) n h':=by
 obtain⟨target,args⟩:=d
 obtain⟨hd1,hd2⟩:=hd
 unfold invoke? at he
 dsimp only at he hd1 hd2⊢
 split at he
 ·exact builtin?_ok G R I hd2 he
 ·rename_i f captured
  have e:invoke (ATarget.ev ρ (.fn (.func f) captured)) (AV.evs ρ args).toArray=callFunc f (AV.evs ρ (args++captured)).toArray:=by
   simp[ATarget.ev,invoke,evs_append]
  rw[e]
  exact invokeFn?_ok G F X R I (Ins_iff.2 fun a ha=>(List.mem_append.1 ha).elim (Ins_iff.1 hd2 a) (Ins_iff.1 hd1 a)) he
 ·rename_i name captured
  split at he
  ·rename_i t v args'
   split at he
   ·rename_i f r hm
    have hr:=method?_in hm hd2.1
    obtain⟨r1,r2,r3⟩:=invokeFn?_ok G F X R I (args:=r::args') ⟨hr,hd2.2⟩ he
    refine⟨r1,r2,fun{E Q} hq hE=>?_⟩
    have e:(AV.evs ρ (AV.iface t v::args')).toArray=#[.iface t (v.ev ρ)]++(AV.evs ρ args').toArray:=by simp[AV.evs,AV.ev]
    simp only[ATarget.ev,invoke,e]
    have e0:(#[Value.iface t (v.ev ρ)]++(AV.evs ρ args').toArray)[0]?=some (.iface t (v.ev ρ)):=by simp
    have e1:(#[Value.iface t (v.ev ρ)]++(AV.evs ρ args').toArray).extract 1 (#[Value.iface t (v.ev ρ)]++(AV.evs ρ args').toArray).size=(AV.evs ρ args').toArray:=by
     simp
    rw[e0]
    simp only[callMethod,e1,wq_bind,wq_program]
    refine wq_method hm ?_
    have e2:#[r.ev ρ]++(AV.evs ρ args').toArray=(AV.evs ρ (r::args')).toArray:=by simp[AV.evs]
    simp only[e2]
    exact r3 hq hE
   ·cases he
  ·cases he
 ·cases he
theorem storeS?_ids(I:Ids K U h){t:TypeId}{a:AA}{v:AV}{h':AH}(hs:storeS? K.P K.O h t a v=.ok h')(ha:a.In U)(hv:v.In U):Ids K U h'∧h'.nb=h.nb∧h'.lim=h.lim:=by
 have old:∀{h':AH},storeVar? K.P h t a v=.ok h'->Ids K U h'∧h'.nb=h.nb∧h'.lim=h.lim:=fun hs=>by
  refine⟨storeVar?_ids I hs ha hv,?_⟩
  unfold storeVar? at hs
  simp only[bind_ok]at hs
  obtain⟨cs,hc,nn,hn,hs⟩:=hs
  split at hs
  ·exact storeN_nb hs
  ·cases hs
 unfold storeS? at hs
 split at hs
 ·split at hs
  ·unfold storeRow? at hs
   simp only[bind_ok]at hs
   obtain⟨cs,hc,hs⟩:=hs
   split at hs
   ·simp only[bind_ok]at hs
    obtain⟨size,hsz,ok,hok,n,hn,hs⟩:=hs
    split at hs<;>cases hs
    exact⟨I,rfl,rfl⟩
   ·cases hs
  ·exact old hs
 ·exact old hs
theorem wq_resolve{E:Value->World->Prop}{ρA:Operand->AV}{c:Call}{ty:TypeId}{d:AD}(he:resolve? ρA c ty=.ok d){Q:Deferred->World->Prop}(hq:Q (d.ev ρ) w):wq K.P K.Ev E (resolve (fun x=>(ρA x).ev ρ) c ty) Q w:=by
 have hargs:c.args.map (fun x=>(ρA x).ev ρ)=(AV.evs ρ (c.args.toList.map ρA)).toArray:=by
  rw[evs_map,List.map_map]
  apply Array.toList_inj.1
  simp[Function.comp_def]
 unfold resolve? at he
 split at he
 ·rename_i b hb
  cases he
  simp only[resolve,hb,hargs,wq_pure]
  exact hq
 ·rename_i recv name hb
  cases he
  simp only[resolve,hb,hargs,wq_pure]
  have:#[(ρA recv).ev ρ]++(AV.evs ρ (c.args.toList.map ρA)).toArray=(AV.evs ρ (ρA recv::c.args.toList.map ρA)).toArray:=by simp[AV.evs]
  rw[this]
  exact hq
 ·rename_i f hb
  split at he
  ·rename_i fn first captured hf
   cases he
   simp only[resolve,hb,hargs,hf,AV.ev,Deferred.ofValue,wq_pure]
   have:(AV.evs ρ first).toArray++(AV.evs ρ (c.args.toList.map ρA)).toArray=(AV.evs ρ (first++c.args.toList.map ρA)).toArray:=by simp[evs_append]
   rw[this]
   exact hq
  ·cases he
theorem resolve?_in{ρA:Operand->AV}{c:Call}{ty:TypeId}{d:AD}(he:resolve? ρA c ty=.ok d)(hA:∀x,(ρA x).In U):d.In U:=by
 have hargs:AV.Ins U (c.args.toList.map ρA):=Ins_iff.2 fun a ha=>by obtain⟨x,_,rfl⟩:=List.mem_map.1 ha;exact hA x
 unfold resolve? at he
 split at he
 ·cases he;exact⟨trivial,hargs⟩
 ·cases he;exact⟨trivial,hA _,hargs⟩
 ·rename_i f hb
  split at he
  ·rename_i fn first captured hf
   cases he
   have:=hA f
   rw[hf]at this
   exact⟨this.2,Ins_iff.2 fun a ha=>(List.mem_append.1 ha).elim (Ins_iff.1 this.1 a) (Ins_iff.1 hargs a)⟩
  ·cases he
theorem op?_ok(G:K.Good)(F:K.Facts){ext:Ext}(X:ExtOk K ext)(R:Rel K ρ h w)(I:Ids K U h){ρA:Operand->AV}(hA:∀x,(ρA x).In U){o:Oper}{n:AN}{h':AH}(he:op? K.P K.O ext h ρA o=.ok (n,h')):
  NOk K U ρ h w (execOp (fun x=>(ρA x).ev ρ) o) n h':=by
 have map2:∀(parts:Array (Nat×Operand)),(parts.map fun(i,x)=>(i,(ρA x).ev ρ))=((parts.toList.map fun(i,x)=>(i,ρA x)).map fun p=>(p.1,p.2.ev ρ)).toArray:=fun parts=>by
  apply Array.toList_inj.1
  simp[Function.comp_def]
 have in2:∀(parts:Array (Nat×Operand)),∀p∈(parts.toList.map fun(i,x)=>(i,ρA x)),p.2.In U:=fun parts p hp=>by
  obtain⟨q,_,rfl⟩:=List.mem_map.1 hp;exact hA _
 have inm:∀(l:List Operand),AV.Ins U (l.map ρA):=fun l=>Ins_iff.2 fun a ha=>by obtain⟨x,_,rfl⟩:=List.mem_map.1 ha;exact hA x
 have inval:∀{v:AV},v.In U->(AN.value v).In (plus U h.nb h.nb):=fun hv=>AV.In.mono plus_sub _ hv
 unfold op? at he
 unfold execOp
 split at he
 ·rename_i x ho
  cases he
  simp only[ho]
  exact⟨inval (hA x),Grows.refl I,fun hq _=>hq _ _ (After.same R rfl)⟩
 ·rename_i x ho
  cases he
  simp only[ho]
  exact⟨inval (hA x),Grows.refl I,fun hq _=>hq _ _ (After.same R rfl)⟩
 ·rename_i c a b ho
  simp only[ho]
  split at he
  ·rename_i t ht
   split at he
   ·rename_i t' ht'
    cases he
    have hb:=bool_lit R ht'
    refine⟨inval (by split;exact hA a;exact hA b),Grows.refl I,fun hq _=>?_⟩
    simp only[ht,AV.ev,asBool,wq_bind,wq_pure,hb]
    exact hq _ _ (After.same R (by cases t'<;>rfl))
   ·cases he
  ·cases he
 ·rename_i elem ho
  simp only[ho]
  split at he
  ·rename_i z hz
   split at he
   ·rename_i cs hc
    obtain⟨v,hv,rfl⟩:=allocOp_ok he
    exact(alloc_ok R I hz hc hv).next
   ·cases he
  ·cases he
 ·rename_i elem x ho
  simp only[ho]
  split at he
  ·rename_i cs hc
   obtain⟨v,hv,rfl⟩:=allocOp_ok he
   exact(box_ok R I (hA x) hc hv).next
  ·cases he
 ·rename_i t parts ho
  simp only[ho]
  obtain⟨v,hv,rfl,rfl⟩:=valOp_ok he
  rw[map2]
  exact NOk.pure R I (build?_in hv (in2 parts)) fun{E Q} hq=>wq_build hv hq
 ·rename_i t len parts ho
  simp only[ho]
  obtain⟨v,hv,rfl⟩:=allocOp_ok he
  rw[map2]
  exact(buildSlice_ok R I (in2 parts) hv).next
 ·rename_i t a ho
  simp only[ho]
  split at he
  ·rename_i a' ha
   obtain⟨v,hv,rfl,rfl⟩:=valOp_ok he
   refine NOk.pure R I (loadVar?_in I hv) fun{E Q} hq=>?_
   rw[sureAddr?_ok ha]
   simp only[Instr.loadAt,AV.ev,Option.map_some,Instr.sureAddr,wq_bind,wq_pure]
   exact wq_loadVar R G hv hq
  ·cases he
 ·rename_i t a x ho
  simp only[ho]
  split at he
  ·rename_i a' ha
   obtain⟨hv,rfl⟩:=skipOp_ok he
   obtain⟨I',hnb⟩:=storeS?_ids I hv (by have:=hA a;rw[sureAddr?_ok ha]at this;exact this) (hA x)
   refine⟨trivial,Grows.of_same I' hnb.1 hnb.2,fun hq _=>?_⟩
   rw[sureAddr?_ok ha]
   simp only[Instr.storeAt,AV.ev,Option.map_some,Instr.sureAddr,wq_bind,wq_pure]
   exact wq_storeS R G hv fun w' r1 r2=>hq _ _ ⟨ρ,Agree.refl _ _,r1,r2,rfl⟩
  ·cases he
 ·rename_i x ho
  simp only[ho]
  split at he
  ·rename_i a ha
   cases he
   have hx:=hA x
   rw[ha]at hx
   refine⟨inval hx,Grows.refl I,fun hq _=>?_⟩
   simp only[ha,AV.ev,Option.map_some,wq_pure]
   exact hq _ _ (After.same R rfl)
  ·rename_i t v ha
   cases he
   have hx:=hA x
   rw[ha]at hx
   refine⟨inval hx,Grows.refl I,fun hq _=>?_⟩
   simp only[ha,AV.ev,wq_pure]
   exact hq _ _ (After.same R rfl)
  ·rename_i f a b ha
   cases he
   have hx:=hA x
   rw[ha]at hx
   refine⟨inval hx,Grows.refl I,fun hq _=>?_⟩
   simp only[ha,AV.ev,wq_pure]
   exact hq _ _ (After.same R rfl)
  ·cases he
 ·rename_i op t x y yt ho
  simp only[ho]
  split at he
  ·rename_i hg
   obtain⟨v,hv,rfl,rfl⟩:=valOp_ok he
   refine NOk.pure R I (binOp?_in I hv (hA x) (hA y)) fun{E Q} hq=>?_
   rw[wq_bind]
   exact wq_eqGuard hg (wq_binOp R hv hq)
  ·cases he
 ·rename_i ty x ho
  simp only[ho]
  split at he
  ·rename_i b hb
   split at he
   ·rename_i c hc
    cases he
    have hx:=hA x
    rw[hb]at hx
    refine NOk.pure R I (v:=.bool (K.O.bool c)) (bool_in (notB_in hc hx)) fun{E Q} hq=>?_
    simp only[hb,AV.ev,Op.unary,wq_pure]
    simp only[AV.ev,bool_ev R,notB_ev hc]at hq
    exact hq
   ·cases he
  ·cases he
 ·rename_i ty x ho
  simp only[ho]
  split at he
  ·rename_i k e hb
   cases he
   have hx:=hA x
   rw[hb]at hx
   refine NOk.pure R I (v:=.int k (K.O.int (.op .sub k (.lit 0) e))) (int_in I ⟨trivial,hx⟩) fun{E Q} hq=>?_
   simp only[hb,AV.ev,Op.unary,Op.intArith,wq_pure]
   simp only[AV.ev,int_ev R,IE.ev,iop]at hq
   exact hq
  ·cases he
 ·rename_i src dst x ho
  simp only[ho]
  obtain⟨v,hv,rfl,rfl⟩:=valOp_ok he
  exact NOk.pure R I (convert?_in I hv (hA x)) fun{E Q} hq=>wq_convert R hv hq
 ·rename_i t x ho
  simp only[ho]
  split at he
  ·cases he
  ·rename_i D hD hni
   cases he
   refine NOk.pure R I (v:=.iface t (ρA x)) (hA x) fun{E Q} hq=>?_
   simp only[Instr.makeInterface,wq_bind,wq_underlying hni]
   cases D<;>first
    |exact absurd hni (hD _)
    |exact hq
  ·cases he
 ·rename_i fn first captured ho
  simp only[ho]
  cases he
  refine NOk.pure R I (v:=.func fn (first.toList.map ρA) (captured.toList.map ρA)) ⟨inm _,inm _⟩ fun{E Q} hq=>?_
  have e1:∀(l:Array Operand),l.map (fun x=>(ρA x).ev ρ)=(AV.evs ρ (l.toList.map ρA)).toArray:=fun l=>by
   rw[evs_map,List.map_map]
   apply Array.toList_inj.1
   simp[Function.comp_def]
  simp only[Instr.makeFunc,e1,wq_pure]
  exact hq
 ·rename_i t l c ho
  simp only[ho]
  obtain⟨v,hv,rfl⟩:=allocOp_ok he
  have:=(makeSliceS_ok G R I (normI_in I (hA c)) hv).next
  rw[normI_ev R,normI_ev R]at this
  exact this
 ·rename_i t x lo hi mx ho
  simp only[ho]
  obtain⟨v,hv,rfl,rfl⟩:=valOp_ok he
  refine NOk.pure R I (sliceOp?_in hv (hA x)) fun{E Q} hq=>?_
  have:=wq_sliceAt (K:=K) (ρ:=ρ) (w:=w) (E:=E) hv hq
  simpa only[Option.map_map,Function.comp_def,normI_ev R] using this
 ·rename_i s x f ho
  simp only[ho]
  obtain⟨v,hv,rfl,rfl⟩:=valOp_ok he
  exact NOk.pure R I (fieldAddr?_in hv (hA x)) fun{E Q} hq=>wq_fieldAt hv hq
 ·rename_i t x f ho
  simp only[ho]
  obtain⟨v,hv,rfl,rfl⟩:=valOp_ok he
  exact NOk.pure R I (field?_in hv (hA x)) fun{E Q} hq=>wq_field hv hq
 ·rename_i t x ix ho
  simp only[ho]
  obtain⟨v,hv,rfl,rfl⟩:=valOp_ok he
  exact NOk.pure R I (indexAddr?_in hv (hA x) (normI_in I (hA ix))) fun{E Q} hq=>by
   have:=wq_indexAt (E:=E) R hv hq
   rw[normI_ev R]at this
   exact this
 ·rename_i t x ix ho
  simp only[ho]
  obtain⟨v,hv,rfl,rfl⟩:=valOp_ok he
  exact NOk.pure R I (indexOp?_in hv (hA x)) fun{E Q} hq=>by
   have:=wq_index (K:=K) (ρ:=ρ) (w:=w) (E:=E) hv hq
   rw[normI_ev R]at this
   exact this
 ·rename_i x xt asserted ok ho
  simp only[ho]
  obtain⟨v,hv,rfl,rfl⟩:=valOp_ok he
  exact NOk.pure R I (typeAssert?_in hv (hA x)) fun{E Q} hq=>wq_typeAssert hv hq
 ·rename_i t ix ho
  simp only[ho]
  split at he
  ·rename_i vs hvs
   split at he
   ·rename_i v hv
    cases he
    have hx:=hA t
    rw[hvs]at hx
    refine NOk.pure R I (v:=v) (Ins_iff.1 hx _ (List.mem_of_getElem? hv)) fun{E Q} hq=>?_
    simp only[hvs,AV.ev,Instr.extract]
    have:(AV.evs ρ vs).toArray[ix]?=some (v.ev ρ):=by rw[List.getElem?_toArray,evs_get,hv];rfl
    rw[this];exact hq
   ·cases he
  ·cases he
 ·rename_i c ho
  simp only[ho]
  split at he
  ·rename_i d hd
   obtain⟨r1,r2,r3⟩:=invoke?_ok G F X R I (resolve?_in hd hA) he
   exact⟨r1,r2,fun{E Q} hq hE=>by
    simp only[wq_bind]
    exact wq_resolve (ρ:=ρ) hd (r3 hq hE)⟩
  ·cases he
 ·rename_i c ho
  simp only[ho]
  split at he
  ·rename_i d hd
   cases he
   have hin:=resolve?_in hd hA
   refine⟨⟨by have:=hin.1;revert this;cases d.target<;>first|exact fun x=>AV.Ins.mono plus_sub _ x|exact id,AV.Ins.mono plus_sub _ hin.2⟩,Grows.refl I,fun{E Q} hq hE=>?_⟩
   simp only[wq_bind]
   exact wq_resolve (ρ:=ρ) hd (hq _ _ (After.same R rfl))
  ·cases he
 ·rename_i x ho
  simp only[ho]
  split at he
  ·rename_i t v hx
   cases he
   have hi:=hA x
   rw[hx]at hi
   refine⟨inval hi,Grows.refl I,fun{E Q} hq hE=>?_⟩
   simp only[hx,AV.ev,Instr.panic,wq_bind,wq_goPanic]
   exact hE _ rfl rfl
  ·cases he
 ·rename_i t s ho
  simp only[ho]
  obtain⟨v,hv,rfl⟩:=allocOp_ok he
  exact(makeChan_ok R I hv).next
 ·rename_i t r ho
  simp only[ho]
  obtain⟨v,hv,rfl⟩:=allocOp_ok he
  have:(r.map fun x=>(ρA x).ev ρ)=(r.map ρA).map (AV.ev ρ):=by cases r<;>rfl
  rw[this]
  exact(makeMap_ok R I hv).next
 ·rename_i t x k ok ho
  simp only[ho]
  obtain⟨v,hv,rfl,rfl⟩:=valOp_ok he
  exact NOk.pure R I (lookup?_in I hv) fun{E Q} hq=>wq_lookup R G hv hq
 ·rename_i t m k x ho
  simp only[ho]
  obtain⟨hv,rfl⟩:=skipOp_ok he
  obtain⟨I',n1,n2⟩:=mapUpdate?_ids I (hA k) (hA x) hv
  refine⟨trivial,Grows.of_same I' n1 n2,fun hq _=>?_⟩
  simp only[wq_bind,wq_pure]
  exact wq_mapUpdate R G hv fun w' r1 r2=>hq _ _ ⟨ρ,Agree.refl _ _,r1,r2,rfl⟩
 ·rename_i t m k x ho
  simp only[ho]
  obtain⟨hv,rfl⟩:=skipOp_ok he
  obtain⟨I',n1,n2⟩:=mapUpdate?_ids I (hA k) (hA x) hv
  refine⟨trivial,Grows.of_same I' n1 n2,fun hq _=>?_⟩
  simp only[wq_bind,wq_pure]
  exact wq_mapUpdate R G hv fun w' r1 r2=>hq _ _ ⟨ρ,Agree.refl _ _,r1,r2,rfl⟩
 ·cases he
end
end Go.Proofs.Ytmobbajggkjpgaa.SX
namespace Go.Proofs.Ytmobbajggkjpgaa.SX
open Go.Conc
def drawnAt(w:World)(d:Nat):World:={w with drawn:=d}
inductive WalkI(P:Program)(main:Bool)(D:World->World->Array Event->Prop)(S:Goroutine->World->Prop):Nat->Goroutine->World->Prop where
 |stop (g:Goroutine) (w:World):S g w->WalkI P main D S 0 g w
 |step (n:Nat) (g:Goroutine) (w:World) (g':Nat->Goroutine) (w':Nat->World) (es:Nat->Array Event):g.status=.running->(∀d,stepG P main g (drawnAt w d)=.go (g' d) (w' d) (es d))->
  (∀d,D (drawnAt w d) (w' d) (es d))->(∀d,WalkI P main D S n (g' d) (w' d))->WalkI P main D S n g w
 |off (n:Nat) (g:Goroutine) (w:World) (g':Goroutine):g.status=.running->(∀d,stepG P main g (drawnAt w d)=.go g' (drawnAt w d) #[⟨.mark .disable,false,true⟩])->
  (∀d,WalkI P main D S (n+1) g' (drawnAt w d))->WalkI P main D S n g w
 |on (n:Nat) (g:Goroutine) (w:World) (g':Goroutine):g.status=.running->(∀d,stepG P main g (drawnAt w d)=.go g' (drawnAt w d) #[⟨.mark .enable,false,true⟩])->
  (∀d,WalkI P main D S n g' (drawnAt w d))->WalkI P main D S (n+1) g w
def Walk(P:Program)(main:Bool)(D:World->World->Array Event->Prop)(S:Goroutine->World->Prop)(_:Nat)(g:Goroutine)(w:World):Prop:=WalkI P main D S 0 g w
section
variable {P:Program}{main:Bool}{D:World->World->Array Event->Prop}{S T:Goroutine->World->Prop}
theorem Walk.stop{n:Nat}{g:Goroutine}{w:World}(h:S g w):Walk P main D S n g w:=WalkI.stop g w h
theorem goes_mono{s:GStep}{K K':Goroutine->World->Array Event->Prop}(h:s.goes K)(hk:∀g w es,K g w es->K' g w es):s.goes K':=by
 cases s<;>first|exact hk _ _ _ h|exact h
theorem goes_ex{s:GStep}{K:Goroutine->World->Array Event->Prop}(h:s.goes K):∃g w es,s=.go g w es∧K g w es:=by
 cases s with
 |go g w es=>exact⟨g,w,es,rfl,h⟩
 |_=>exact h.elim
theorem Walk.mono{n m:Nat}{g:Goroutine}{w:World}(_:n≤m)(h:Walk P main D S n g w):Walk P main D S m g w:=h
theorem Walk.any{n m:Nat}{g:Goroutine}{w:World}(h:Walk P main D S n g w):Walk P main D S m g w:=h
theorem WalkI.trans(hST:∀g w,S g w->WalkI P main D T 0 g w){n:Nat}{g:Goroutine}{w:World}(h:WalkI P main D S n g w):WalkI P main D T n g w:=by
 induction h with
 |stop g w hs=>exact hST g w hs
 |step n g w g' w' es hr hs hd _ ih=>exact WalkI.step n g w g' w' es hr hs hd fun d=>ih d
 |off n g w g' hr hs _ ih=>exact WalkI.off n g w g' hr hs fun d=>ih d
 |on n g w g' hr hs _ ih=>exact WalkI.on n g w g' hr hs fun d=>ih d
theorem Walk.trans{n m:Nat}(hST:∀g w,S g w->Walk P main D T m g w){g:Goroutine}{w:World}(h:Walk P main D S n g w):Walk P main D T (n+m) g w:=WalkI.trans hST h
theorem Walk.weaken{n:Nat}(hST:∀g w,S g w->T g w){g:Goroutine}{w:World}(h:Walk P main D S n g w):Walk P main D T n g w:=
 (Walk.trans (m:=0) (fun g w hs=>Walk.stop (hST g w hs)) h).any
theorem Walk.head{n m:Nat}{g:Goroutine}{w:World}(hs:g.status=.running)(h:∀d,(stepG P main g (drawnAt w d)).goes fun g' w' es=>D (drawnAt w d) w' es∧Walk P main D S n g' w'):Walk P main D S m g w:=by
 have h':∀d,∃g' w' es,stepG P main g (drawnAt w d)=.go g' w' es∧D (drawnAt w d) w' es∧Walk P main D S n g' w':=fun d=>goes_ex (h d)
 exact WalkI.step 0 g w (fun d=>(h' d).choose) (fun d=>(h' d).choose_spec.choose) (fun d=>(h' d).choose_spec.choose_spec.choose) hs (fun d=>(h' d).choose_spec.choose_spec.choose_spec.1)
  (fun d=>(h' d).choose_spec.choose_spec.choose_spec.2.1) (fun d=>(h' d).choose_spec.choose_spec.choose_spec.2.2)
theorem Walk.one{g:Goroutine}{w:World}(hs:g.status=.running)(h:∀d,(stepG P main g (drawnAt w d)).goes fun g' w' es=>D (drawnAt w d) w' es∧S g' w'):Walk P main D S 1 g w:=
 Walk.head (n:=0) hs fun d=>goes_mono (h d) fun g' w' es ⟨a,b⟩=>⟨a,Walk.stop b⟩
theorem Walk.lax{D':World->World->Array Event->Prop}{n:Nat}(hd:∀w w' es,D w w' es->D' w w' es){g:Goroutine}{w:World}(h:Walk P main D S n g w):Walk P main D' S n g w:=by
 change WalkI P main D S 0 g w at h
 show WalkI P main D' S 0 g w
 generalize(0:Nat)=k at h⊢
 induction h with
 |stop g w hs=>exact WalkI.stop g w hs
 |step n g w g' w' es hr hs hdd _ ih=>exact WalkI.step n g w g' w' es hr hs (fun d=>hd _ _ _ (hdd d)) fun d=>ih d
 |off n g w g' hr hs _ ih=>exact WalkI.off n g w g' hr hs fun d=>ih d
 |on n g w g' hr hs _ ih=>exact WalkI.on n g w g' hr hs fun d=>ih d
end
def Stays(S:Nat->Nat->Prop)(w w':World):Prop:=∀b n v,S b n->w.cell? ⟨b,n,none⟩=some v->w'.cell? ⟨b,n,none⟩=some v
theorem wq_keep{α:Type}{P:Program}{Ev:Event->Prop}{E:Value->World->Prop}{S:Nat->Nat->Prop}(hE:∀b n s,S b n->¬Ev ⟨.cell ⟨b,n,none⟩,true,s⟩)(m:Sem α):∀{Q:α->World->Prop} {w:World},wq P Ev E m Q w->
  wq P Ev E m (fun x w'=>Q x w'∧Stays S w w') w:=by
 have pre:∀{w w1:World},Stays S w w1->∀{m:Sem α} {Q:α->World->Prop},wq P Ev E m (fun x w'=>Q x w'∧Stays S w1 w') w1->wq P Ev E m (fun x w'=>Q x w'∧Stays S w w') w1:=by
  intro w w1 hs m Q h
  exact wq_mono (fun _ _ x=>x) (fun x w' ⟨a,b⟩=>⟨a,fun b' n v x y=>b b' n v x (hs b' n v x y)⟩) h
 induction m with
 |pure a=>intro Q w h;exact⟨h,fun _ _ _ _ x=>x⟩
 |load m a k ih=>intro Q w h;obtain⟨v,h1,h2,h3⟩:=h;exact⟨v,h1,h2,ih v h3⟩
 |store m a v k ih=>
  intro Q w h
  obtain⟨h1,h2,h3,h4,h5⟩:=h
  refine⟨h1,h2,h3,h4,pre ?_ (ih h5)⟩
  intro b n u hs hc
  simp only[World.cell?]at hc⊢
  rw[heap_setCell]
  by_cases e:b=a.block
  ·rw[if_pos e]
   cases ho:w.heap[b]? with
   |none=>rw[ho]at hc;cases hc
   |some o=>
    rw[ho]at hc
    cases o with
    |cells c elem fr=>
     simp only[Option.map_some]
     simp only[Option.isSome_none,Bool.false_eq_true,if_false]at hc⊢
     by_cases hsp:a.spot.isSome=true
     ·rw[if_pos hsp];exact hc
     ·rw[if_neg hsp]
      by_cases en:a.off=n
      ·exfalso
       have:a=⟨b,n,none⟩:=by
        obtain⟨ab,ao,asp⟩:=a
        simp only[Option.not_isSome_iff_eq_none]at hsp
        simp_all
       exact hE b n _ hs (this▸h4)
      ·rw[Array.getElem?_setIfInBounds_ne en];exact hc
    |_=>cases hc
  ·rw[if_neg e];exact hc
 |new o k ih=>
  intro Q w h
  refine(pre ?_ (ih _ h):wq P Ev E (k w.heap.size) _ _)
  intro b n u hs hc
  simp only[World.cell?]at hc⊢
  have hlt:b<w.heap.size:=by
   rcases Nat.lt_or_ge b w.heap.size with h'|h'
   ·exact h'
   ·rw[Array.getElem?_eq_none h']at hc;cases hc
  rw[Array.getElem?_push_lt hlt]
  rw[Array.getElem?_eq_getElem hlt]at hc
  exact hc
 |shape r k ih=>intro Q w h;exact ih _ h
 |freeze a n k ih=>intro Q w h;exact h.elim
 |frozen a k ih=>intro Q w h;exact ih _ h
 |getObj r k ih=>intro Q w h;obtain⟨o,h1,h2,h3,h4⟩:=h;exact⟨o,h1,h2,h3,ih o h4⟩
 |setObj r o k ih=>
  intro Q w h
  obtain⟨⟨o',h1,h2⟩,h3,h4⟩:=h
  refine⟨⟨o',h1,h2⟩,h3,pre ?_ (ih h4)⟩
  intro b n u hs hc
  simp only[World.cell?]at hc⊢
  by_cases e:r=b
  ·subst e
   rw[h1]at hc
   cases o' with
   |cells c el fr=>exact absurd rfl (h2 _ _ _)
   |_=>cases hc
  ·rw[Array.getElem?_setIfInBounds_ne e];exact hc
 |choose q k ih=>
  intro Q w h
  simp only[wq]at h⊢
  split
  ·rename_i hf;rw[if_pos hf]at h;exact ih 0 h
  ·rename_i hf;rw[if_neg hf]at h;exact fun n=>pre (fun _ _ _ _ x=>x) (ih _ (h n))
 |sys c k ih=>intro Q w h;exact h.elim
 |program k ih=>intro Q w h;exact ih P h
 |mark m k ih=>intro Q w h;exact⟨h.1,ih h.2⟩
 |halt x=>intro Q w h;cases x<;>exact h
def DK(K:Ctx)(w w':World)(es:Array Event):Prop:=Keeps K.own w w'∧(∀e∈es,K.Ev e)∧Stays K.still w w'
structure TmpR(ρ:Env)(nt:Nat)(t:TT)(tmps:Array Value):Prop where
 size:tmps.size=nt
 le:nt≤60000
 get:∀n,n<nt->tmps[n]?=some ((t.get n).ev ρ)
 out:∀n,nt≤n->t.get n=undefA
def AMode.ev(ρ:Env):AMode->FrameMode
 |.run=>.run
 |.returning=>.returning
 |.panicking chain=>.panicking (chain.map fun x=>{v:=x.1.ev ρ,recovered:=x.2})
def mkF(fn:FuncId)(kind:CallKind):Frame:={(default:Frame)with fn:=fn,kind:=kind}
def bB(ρ:Env)(fn:FuncId)(kind:CallKind):Frame:=
 match kind with
 |.wrapped=>{mkF fn .normal with roundOf:=ρ.bt.1}
 |k=>mkF fn k
def dB(ρ:Env)(kind:CallKind)(ds:List Deferred):List Deferred:=
 match kind with
 |.wrapped=>ds++ρ.bt.2
 |_=>ds
def aB(ρ:Env)(kind:CallKind)(tm:Array Value)(ds:List AD):Act:=⟨tm,dB ρ kind (ds.map (AD.ev ρ))⟩
def plainK(k:CallKind):Prop:=k=.normal∨k=.deferred
theorem plain_of{k:CallKind}(h:plainK k∨k=.wrapped)(ht:tagged k=false):plainK k:=by
 rcases h with h|rfl
 ·exact h
 ·cases ht
theorem plain_bB{k:CallKind}(h:plainK k)(ρ:Env)(fn:FuncId):bB ρ fn k=mkF fn k:=by rcases h with rfl|rfl<;>rfl
theorem plain_dB{k:CallKind}(h:plainK k)(ρ:Env)(ds:List Deferred):dB ρ k ds=ds:=by rcases h with rfl|rfl<;>rfl
theorem plain_aB{k:CallKind}(h:plainK k)(ρ:Env)(tm:Array Value)(ds:List AD):aB ρ k tm ds=⟨tm,ds.map (AD.ev ρ)⟩:=by unfold aB;rw[plain_dB h]
theorem plain_at{k:CallKind}(h:plainK k)(ρ:Env)(fn:FuncId)(tm:Array Value)(ds:List AD)(todo:List Item):(bB ρ fn k).atR (aB ρ k tm ds) todo=(mkF fn k).at ⟨tm,ds.map (AD.ev ρ)⟩ todo:=by
 rw[plain_bB h,plain_aB h];rfl
theorem plain_round{k:CallKind}(h:plainK k)(ρ:Env)(fn:FuncId):(bB ρ fn k).roundOf=none:=by rw[plain_bB h];rfl
theorem bB_kind{k:CallKind}(h:plainK k∨k=.wrapped)(ρ:Env)(fn:FuncId):(bB ρ fn k).kind≠.early:=by
 rcases h with(rfl|rfl)|rfl<;>simp[bB,mkF]
theorem bB_fn(ρ:Env)(fn:FuncId)(k:CallKind):(bB ρ fn k).fn=fn:=by cases k<;>rfl
theorem dB_cons(ρ:Env)(k:CallKind)(d:Deferred)(ds:List Deferred):dB ρ k (d::ds)=d::dB ρ k ds:=by cases k<;>rfl
def frameOf(ρ:Env)(fr:AFrame)(tmps:Array Value)(todo:List Item):Frame:={(bB ρ fr.fn fr.kind).atR (aB ρ fr.kind tmps fr.defers) todo with mode:=fr.mode.ev ρ}
structure FrIs(P:Program)(ρ:Env)(fr:AFrame)(tmps:Array Value)(todo:List Item):Prop where
 tmps:TmpR ρ fr.nt fr.tmps tmps
 kind:plainK fr.kind∨fr.kind=.wrapped
 todo:fr.mode=.run->todo=fr.todo
 fn:∃fn,P.funcs[fr.fn]?=some fn
def FrRel(P:Program)(ρ:Env)(fr:AFrame)(g:Frame):Prop:=∃tmps todo,FrIs P ρ fr tmps todo∧g=frameOf ρ fr tmps todo
def FrRels(P:Program)(ρ:Env):List AFrame->List Frame->Prop
 |[],[]=>True
 |a::l,b::m=>FrRel P ρ a b∧FrRels P ρ l m
 |_,_=>False
def Gam(K:Ctx)(ρ:Env)(c:ACfg)(cs:List Frame)(g:Goroutine)(w:World):Prop:=
 Rel K ρ c.h w∧∃fr frs,FrRel K.P ρ c.cur fr∧FrRels K.P ρ c.callers frs∧g=G fr (frs++cs)
def AMode.In(U:Nat->Prop):AMode->Prop
 |.panicking chain=>∀x∈chain,x.1.In U
 |_=>True
structure AFrame.In(U:Nat->Prop)(fr:AFrame):Prop where
 tmps:fr.tmps.In U
 defers:∀d∈fr.defers,d.In U
 mode:fr.mode.In U
structure CIds(K:Ctx)(U:Nat->Prop)(c:ACfg):Prop where
 cur:c.cur.In U
 callers:∀fr∈c.callers,fr.In U
 ids:Ids K U c.h
theorem ATarget.In.mono{U U':Nat->Prop}(hs:∀n,U n->U' n){t:ATarget}(h:t.In U):t.In U':=by
 cases t with
 |fn f c=>exact AV.Ins.mono hs _ h
 |builtin b a t c=>trivial
theorem AD.In.mono{U U':Nat->Prop}(hs:∀n,U n->U' n){d:AD}(h:d.In U):d.In U':=⟨ATarget.In.mono hs h.1,AV.Ins.mono hs _ h.2⟩
theorem AMode.In.mono{U U':Nat->Prop}(hs:∀n,U n->U' n){m:AMode}(h:m.In U):m.In U':=by
 cases m with
 |panicking chain=>exact fun x hx=>AV.In.mono hs _ (h x hx)
 |_=>trivial
theorem AFrame.In.mono{U U':Nat->Prop}(hs:∀n,U n->U' n){fr:AFrame}(h:fr.In U):fr.In U':=
 ⟨TT.In.mono hs h.tmps,fun d hd=>AD.In.mono hs (h.defers d hd),AMode.In.mono hs h.mode⟩
section
variable {U:Nat->Prop}{ρ ρ':Env}
theorem AD.ev_agree(A:Agree U ρ ρ'){d:AD}(h:d.In U):d.ev ρ'=d.ev ρ:=by
 obtain⟨t,a⟩:=d
 simp only[AD.ev]
 rw[AV.evs_agree A _ h.2]
 cases t with
 |fn f c=>simp only[ATarget.ev];rw[AV.evs_agree A _ h.1]
 |builtin b a t c=>rfl
theorem AMode.ev_agree(A:Agree U ρ ρ'){m:AMode}(h:m.In U):m.ev ρ'=m.ev ρ:=by
 cases m with
 |panicking chain=>
  simp only[AMode.ev]
  congr 1
  exact List.map_congr_left fun x hx=>by rw[AV.ev_agree A _ (h x hx)]
 |_=>rfl
theorem bB_agree(A:Agree U ρ ρ')(fn:FuncId)(k:CallKind):bB ρ' fn k=bB ρ fn k:=by
 unfold bB;rw[A.bt]
theorem aB_agree(A:Agree U ρ ρ')(k:CallKind)(tm:Array Value){ds:List AD}(h:∀d∈ds,d.In U):aB ρ' k tm ds=aB ρ k tm ds:=by
 have:ds.map (AD.ev ρ')=ds.map (AD.ev ρ):=List.map_congr_left fun d hd=>AD.ev_agree A (h d hd)
 unfold aB dB
 rw[this,A.bt]
theorem TmpR.agree(A:Agree U ρ ρ'){nt:Nat}{t:TT}{tmps:Array Value}(h:TmpR ρ nt t tmps)(hi:t.In U):TmpR ρ' nt t tmps:=
 ⟨h.size,h.le,fun n hn=>by rw[h.get n hn,AV.ev_agree A _ (hi n)],h.out⟩
theorem frameOf_agree(A:Agree U ρ ρ'){fr:AFrame}(hi:fr.In U)(tmps:Array Value)(todo:List Item):frameOf ρ' fr tmps todo=frameOf ρ fr tmps todo:=by
 unfold frameOf
 rw[AMode.ev_agree A hi.mode,aB_agree A fr.kind tmps hi.defers,bB_agree A]
theorem FrRel.agree{P:Program}(A:Agree U ρ ρ'){fr:AFrame}{g:Frame}(h:FrRel P ρ fr g)(hi:fr.In U):FrRel P ρ' fr g:=by
 obtain⟨tmps,todo,h1,h3⟩:=h
 exact⟨tmps,todo,⟨h1.tmps.agree A hi.tmps,h1.kind,h1.todo,h1.fn⟩,by rw[h3,frameOf_agree A hi]⟩
theorem callers_agree{P:Program}(A:Agree U ρ ρ'):∀{l:List AFrame} {frs:List Frame},FrRels P ρ l frs->(∀fr∈l,fr.In U)->FrRels P ρ' l frs
 |[],[],_,_=>trivial
 |_::_,_::_,h,hi=>⟨h.1.agree A (hi _ (by simp)),callers_agree A h.2 fun fr hf=>hi fr (List.mem_cons_of_mem _ hf)⟩
end
section
variable {ρ:Env}{nt:Nat}{t:TT}{tmps:Array Value}{U:Nat->Prop}
theorem TmpR.getD(h:TmpR ρ nt t tmps)(n:Nat):tmps.getD n undef=(t.get n).ev ρ:=by
 rw[Array.getD_eq_getD_getElem?]
 rcases Nat.lt_or_ge n nt with hn|hn
 ·rw[h.get n hn];rfl
 ·rw[h.out n hn,Array.getElem?_eq_none (by rw[h.size];exact hn)];rfl
theorem evalA_ev(h:TmpR ρ nt t tmps)(ds:List Deferred)(x:Operand):Act.eval ⟨tmps,ds⟩ x=(evalA t x).ev ρ:=by
 cases x with
 |tmp n=>exact h.getD n
 |const v=>exact(ofValue_ev ρ v).symm
 |global g=>rfl
 |func f=>rfl
theorem evalA_in(h:t.In U)(x:Operand):(evalA t x).In U:=by
 cases x with
 |tmp n=>exact h n
 |const v=>exact ofValue_in v
 |global g=>exact⟨trivial,trivial⟩
 |func f=>exact⟨trivial,trivial⟩
theorem put_tmps(h:TmpR ρ nt t tmps)(ds:List Deferred)(dst:Option Tmp)(v:AV):∃tmps',(Act.put ⟨tmps,ds⟩ dst (v.ev ρ))=⟨tmps',ds⟩∧TmpR ρ nt (putA nt t dst v) tmps':=by
 cases dst with
 |none=>exact⟨tmps,rfl,h⟩
 |some d=>
  refine⟨tmps.setIfInBounds d (v.ev ρ),rfl,?_⟩
  unfold putA
  dsimp only
  cases hb:Nat.ble (d+1) nt with
  |true=>
   have hd:Nat.succ d≤nt:=Nat.le_of_ble_eq_true hb
   have hb16:Nat.succ d<2 ^ 16:=Nat.lt_of_le_of_lt (Nat.le_trans hd h.le) (by decide)
   refine⟨by simpa using h.size,h.le,fun n hn=>?_,fun n hn=>?_⟩
   ·dsimp only at hn⊢
    rw[TT.get_set v 16 t d n hb16]
    by_cases e:n=d
    ·subst e;rw[if_pos rfl];simp[h.size,hn]
    ·rw[if_neg e,Array.getElem?_setIfInBounds_ne (fun x=>e x.symm)];exact h.get n hn
   ·dsimp only
    rw[TT.get_set v 16 t d n hb16,if_neg (show ¬n=d from fun e=>by subst e;exact Nat.lt_irrefl _ (Nat.lt_of_lt_of_le hd hn))];exact h.out n hn
  |false=>
   have hd:nt≤d:=Nat.le_of_not_lt fun hlt=>by
    have:=Nat.ble_eq_true_of_le hlt
    have h2:Nat.ble (d+1) nt=true:=this
    rw[h2]at hb;cases hb
   have:tmps.setIfInBounds d (v.ev ρ)=tmps:=Array.setIfInBounds_eq_of_size_le (by rw[h.size];exact hd)
   rw[this];exact h
theorem putA_in{dst:Option Tmp}{v:AV}(h:t.In U)(hv:v.In U)(hnt:nt≤60000):(putA nt t dst v).In U:=by
 cases dst with
 |none=>exact h
 |some d=>
  unfold putA
  dsimp only
  cases hb:Nat.ble (d+1) nt with
  |true=>
   have hd:Nat.succ d≤nt:=Nat.le_of_ble_eq_true hb
   have hb16:Nat.succ d<2 ^ 16:=Nat.lt_of_le_of_lt (Nat.le_trans hd hnt) (by decide)
   intro n
   dsimp only
   rw[TT.get_set v 16 t d n hb16]
   split
   ·exact hv
   ·exact h n
  |false=>exact h
theorem wantedA_ok{K:Ctx}{h:AH}{w:World}(R:Rel K ρ h w)(T:TmpR ρ nt t tmps){ops:Array Oper}{o:Oper}{b:Bool}(he:wantedA K.O ops t o=.ok b):Region.wanted o (yielded ops tmps)=b:=by
 unfold wantedA at he
 unfold Region.wanted
 split at he
 ·rename_i hg;rw[hg];cases he;rfl
 ·rename_i j want hg
  rw[hg]
  split at he
  ·rename_i y hy
   cases he
   have:yielded ops tmps j=y:=by
    unfold yieldedA at hy
    unfold yielded
    split at hy
    ·cases hy
    ·rename_i d hd
     rw[hd]
     simp only[Option.bind_some]
     rcases Nat.lt_or_ge d nt with hlt|hge
     ·rw[T.get d hlt]
      split at hy
      ·rename_i b' hb'
       split at hy
       ·rename_i b2 hb2
        cases hy
        rw[hb']
        simp only[AV.ev,bool_lit R hb2]
       ·cases hy
      ·rename_i vs hvs
       cases hy
       rw[hvs];rfl
      ·cases hy
     ·rw[Array.getElem?_eq_none (by rw[T.size];exact hge)]
      rw[T.out d hge]at hy
      simp only[undefA]at hy
      cases hy;rfl
   show(yielded ops tmps j==some want)=_
   rw[this]
  ·cases he
theorem fill_in:∀{l:List AV} {n:Nat} {t:TT},n+l.length≤60000->AV.Ins U l->t.In U->(TT.fill l n t).In U:=by
 intro l n t hle hl ht m
 rw[TT.get_fill l n t m hle]
 split
 ·rename_i hm
  have:m-n<l.length:=by omega
  rw[List.getD_eq_getElem?_getD,List.getElem?_eq_getElem this]
  exact Ins_iff.1 hl _ (List.getElem_mem this)
 ·exact ht m
end
theorem enterA_ok{P:Program}{ρ:Env}{U:Nat->Prop}{f:FuncId}{args:List AV}{kind:CallKind}{fr:AFrame}(he:enterA P f args kind=.ok fr)(hk:kind=.normal∨kind=.deferred)(ha:AV.Ins U args):
  FrRel P ρ fr (Frame.enter P f (AV.evs ρ args).toArray kind)∧fr.In U∧fr.kind=kind∧fr.fn=f∧∃fn,P.funcs[f]?=some fn:=by
 unfold enterA at he
 split at he
 ·rename_i fn hf
  split at he
  ·rename_i c hc
   split at he
   ·rename_i hlen
    cases he
    refine⟨⟨(AV.evs ρ args).toArray++Array.replicate (fn.ntmps-args.length) undef,[.code c],⟨?_,.inl hk,fun _=>rfl,fn,hf⟩,?_⟩,⟨?_,by simp,trivial⟩,rfl,rfl,fn,hf⟩
    ·have hl:(AV.evs ρ args).length=args.length:=evs_length ρ args
     refine⟨by simp[hl];omega,hlen.2,fun n hn=>?_,fun n hn=>?_⟩
     ·dsimp only at hn⊢
      rw[TT.get_fill args 0 .leaf n (by omega)]
      by_cases hlt:n<args.length
      ·rw[if_pos ⟨Nat.zero_le _,by omega⟩,Array.getElem?_append_left (by simp[hl];exact hlt)]
       rw[List.getElem?_toArray,evs_get]
       simp[List.getD_eq_getElem?_getD,List.getElem?_eq_getElem hlt]
      ·rw[if_neg (by omega),Array.getElem?_append_right (by simp[hl];omega)]
       rw[Array.getElem?_replicate,if_pos (by simp[hl];omega)]
       rfl
     ·dsimp only at hn⊢
      rw[TT.get_fill args 0 .leaf n (by omega),if_neg (by omega)]
      rfl
    ·unfold frameOf Frame.enter
     dsimp only
     rw[plain_at hk]
     simp[mkF,Frame.at,AMode.ev,hf,hc,evs_length]
    ·exact fill_in (by omega) ha (fun _=>trivial)
   ·cases he
  ·cases he
 ·cases he
section
variable {P:Program}{main:Bool}{b:Frame}{a:Act}{k:List Item}{cs:List Frame}{w:World}
theorem stR_skip:stepG P main (G (b.atR a (.code .skip::k)) cs) w=.go (G (b.atR a k) cs) w:=by simp[G,stepG,stepG.exec,Frame.atR]
theorem stR_label{l:Nat}:stepG P main (G (b.atR a (.code (.label l)::k)) cs) w=.go (G (b.atR a k) cs) w:=by simp[G,stepG,stepG.exec,Frame.atR]
theorem stR_inBlock{id:Nat}:stepG P main (G (b.atR a (.inBlock id::k)) cs) w=.go (G (b.atR a k) cs) w:=by simp[G,stepG,stepG.exec,Frame.atR]
theorem stR_inScope{c:Code}:stepG P main (G (b.atR a (.inScope c::k)) cs) w=.go (G (b.atR a k) cs) w:=by simp[G,stepG,stepG.exec,Frame.atR]
theorem stR_seq{x y:Code}:stepG P main (G (b.atR a (.code (.seq x y)::k)) cs) w=.go (G (b.atR a (.code x::.code y::k)) cs) w:=by simp[G,stepG,stepG.exec,Frame.atR]
theorem stR_cond{c:Operand}{x y:Code}{t:Bool}(h:a.eval c=.bool t):stepG P main (G (b.atR a (.code (.cond c x y)::k)) cs) w=.go (G (b.atR a (.code (if t then x else y)::k)) cs) w:=by
 have h':(b.atR a (.code (.cond c x y)::k)).eval c=.bool t:=by rw[Frame.eval_atR];exact h
 simp only[Frame.atR]at h'
 simp[G,stepG,stepG.exec,Frame.atR,h']
theorem stR_block{id:Nat}{c:Code}:stepG P main (G (b.atR a (.code (.block id c)::k)) cs) w=.go (G (b.atR a (.code c::.inBlock id::k)) cs) w:=by simp[G,stepG,stepG.exec,Frame.atR]
theorem stR_loop{c:Code}:stepG P main (G (b.atR a (.code (.loop c)::k)) cs) w=.go (G (b.atR a (.code c::.inLoop c::k)) cs) w:=by simp[G,stepG,stepG.exec,Frame.atR]
theorem stR_inLoop{c:Code}:stepG P main (G (b.atR a (.inLoop c::k)) cs) w=.go (G (b.atR a (.code c::.inLoop c::k)) cs) w:=by simp[G,stepG,stepG.exec,Frame.atR]
theorem stR_scope{c:Code}:stepG P main (G (b.atR a (.code (.scope c)::k)) cs) w=.go (G (b.atR a (.code c::.inScope c::k)) cs) w:=by simp[G,stepG,stepG.exec,Frame.atR]
theorem stR_exit{id:Nat}{k':List Item}(h:exitTo id k=some k'):stepG P main (G (b.atR a (.code (.exit id)::k)) cs) w=.go (G (b.atR a k') cs) w:=by simp[G,stepG,stepG.exec,Frame.atR,h]
theorem stR_goto{l:Nat}{k':List Item}(h:gotoIn l k=some k'):stepG P main (G (b.atR a (.code (.goto l)::k)) cs) w=.go (G (b.atR a k') cs) w:=by simp[G,stepG,stepG.exec,Frame.atR,h]
theorem stR_region{id:Nat}{ops:Array Oper}:stepG P main (G (b.atR a (.code (.region id ops false)::k)) cs) w=.go (G (b.atR a (.inRegion ops (List.range ops.size)::k)) cs) w:=by simp[G,stepG,stepG.exec,Frame.atR]
theorem stR_region_end{ops:Array Oper}:stepG P main (G (b.atR a (.inRegion ops []::k)) cs) w=.go (G (b.atR a k) cs) w:=by simp[G,stepG,stepG.exec,Frame.atR]
theorem stR_end(hb:b.roundOf=none):stepG P main (G (b.atR a []) cs) w=.go (G {b.atR a []with mode:=.returning} cs) w:=by simp[G,stepG,stepG.exec,Frame.atR,hb]
theorem stR_ret(hb:b.roundOf=none):stepG P main (G (b.atR a (.code .ret::k)) cs) w=.go (G {b.atR a (.code .ret::k)with mode:=.returning} cs) w:=by simp[G,stepG,stepG.exec,Frame.atR,hb]
theorem finR(b:Frame)(a:Act){ops:Array Oper}{i:Nat}{rest:List Nat}{k:List Item}{o:Oper}(ho:ops[i]?=some o)(v:Value):(b.atR a (.inRegion ops (i::rest)::k)).finish v=b.atR (a.put o.dst v) (.inRegion ops rest::k):=by
 rw[Frame.finish_atR,ho];rfl
variable {ops:Array Oper}{i:Nat}{rest:List Nat}{o:Oper}{w':World}
theorem stR_unwanted(ho:ops[i]?=some o)(hw:Region.wanted o (yielded ops a.tmps)=false):
  stepG P main (G (b.atR a (.inRegion ops (i::rest)::k)) cs) w=.go (G (b.atR (a.put o.dst undef) (.inRegion ops rest::k)) cs) w #[]:=by
 rw[<-finR b a ho]
 simp[G,stepG,stepG.exec,Frame.atR,ho,hw]
def FreeOp(b:Frame)(o:Oper):Prop:=b.roundOf=none∨∀c,o.op≠.defer c
theorem stR_oper(hf:FreeOp b o)(ho:ops[i]?=some o)(hw:Region.wanted o (yielded ops a.tmps)=true):
  stepG P main (G (b.atR a (.inRegion ops (i::rest)::k)) cs) w=stepG.apply P true (b.atR a (.inRegion ops (i::rest)::k)) cs none (execOp a.eval o) w:=by
 have he:=Frame.eval_atR b a (.inRegion ops (i::rest)::k)
 have h1:stepG P main (G (b.atR a (.inRegion ops (i::rest)::k)) cs) w=stepG.oper P true (b.atR a (.inRegion ops (i::rest)::k)) cs none w:=by
  simp[G,stepG,stepG.exec,Frame.atR,ho,hw]
 rw[h1]
 have h2:(b.atR a (.inRegion ops (i::rest)::k)).oper?=some o:=by simp[Frame.oper?,Frame.atR,ho]
 have h3:(b.atR a (.inRegion ops (i::rest)::k)).roundOf=b.roundOf:=rfl
 unfold stepG.oper
 rw[h2]
 dsimp only
 rw[h3,he]
 rcases hf with h|h
 ·rw[h]
 ·split
  ·rename_i l c _ hc;exact absurd hc (h c)
  ·rfl
theorem stR_value{v:Value}(hf:FreeOp b o)(ho:ops[i]?=some o)(hw:Region.wanted o (yielded ops a.tmps)=true)(hk:b.kind≠.early)(hr:(execOp a.eval o).run P w=.ok (.value v) w'):
  stepG P main (G (b.atR a (.inRegion ops (i::rest)::k)) cs) w=.go (G (b.atR (a.put o.dst v) (.inRegion ops rest::k)) cs) w' (listed P b.fn a o w):=by
 have hk':(b.kind==CallKind.early)=false:=by simpa using hk
 rw[stR_oper hf ho hw,<-finR b a ho]
 simp[stepG.apply,hr,G,Frame.atR,hk',GStep.after,listed]
theorem stR_none(hf:FreeOp b o)(ho:ops[i]?=some o)(hw:Region.wanted o (yielded ops a.tmps)=true)(hk:b.kind≠.early)(hr:(execOp a.eval o).run P w=.ok .skip w'):
  stepG P main (G (b.atR a (.inRegion ops (i::rest)::k)) cs) w=.go (G (b.atR (a.put o.dst undef) (.inRegion ops rest::k)) cs) w' (listed P b.fn a o w):=by
 have hk':(b.kind==CallKind.early)=false:=by simpa using hk
 rw[stR_oper hf ho hw,<-finR b a ho]
 simp[stepG.apply,hr,G,Frame.atR,hk',GStep.after,listed]
theorem stR_enter{f:FuncId}{args:Array Value}(hf:FreeOp b o)(ho:ops[i]?=some o)(hw:Region.wanted o (yielded ops a.tmps)=true)(hk:b.kind≠.early)(hr:(execOp a.eval o).run P w=.ok (.enter f args) w'):
  stepG P main (G (b.atR a (.inRegion ops (i::rest)::k)) cs) w=.go (G (Frame.enter P f args .normal) (b.atR a (.inRegion ops (i::rest)::k)::cs)) w' (listed P b.fn a o w):=by
 have hk':(b.kind==CallKind.early)=false:=by simpa using hk
 rw[stR_oper hf ho hw]
 simp[stepG.apply,hr,G,Frame.atR,hk',GStep.after,listed]
theorem stR_panic{v:Value}(hf:FreeOp b o)(ho:ops[i]?=some o)(hw:Region.wanted o (yielded ops a.tmps)=true)(hk:b.kind≠.early)(hr:(execOp a.eval o).run P w=.halt (.panic v) w'):
  stepG P main (G (b.atR a (.inRegion ops (i::rest)::k)) cs) w=.go (G ((b.atR a (.inRegion ops (i::rest)::k)).raise [{v,recovered:=false}]) cs) w' (listed P b.fn a o w):=by
 have hk':(b.kind==CallKind.early)=false:=by simpa using hk
 rw[stR_oper hf ho hw]
 simp[stepG.apply,hr,G,Frame.atR,hk',GStep.after,listed]
theorem stR_defer{d:Deferred}(hb:b.roundOf=none)(ho:ops[i]?=some o)(hw:Region.wanted o (yielded ops a.tmps)=true)(hk:b.kind≠.early)(hr:(execOp a.eval o).run P w=.ok (.defer d) w'):
  stepG P main (G (b.atR a (.inRegion ops (i::rest)::k)) cs) w=.go (G (b.atR (({a with defers:=d::a.defers}:Act).put o.dst undef) (.inRegion ops rest::k)) cs) w' (listed P b.fn a o w):=by
 have hfin:=finR b {a with defers:=d::a.defers} (rest:=rest) (k:=k) ho undef
 have hk':(b.kind==CallKind.early)=false:=by simpa using hk
 rw[stR_oper (.inl hb) ho hw,<-hfin]
 simp[stepG.apply,hr,G,Frame.atR,hk',GStep.after,listed]
theorem stR_recover(hb:b.roundOf=none)(ho:ops[i]?=some o)(hw:Region.wanted o (yielded ops a.tmps)=true)(hk:b.kind≠.early)(hr:(execOp a.eval o).run P w=.ok .recover w'):
  stepG P main (G (b.atR a (.inRegion ops (i::rest)::k)) cs) w=.go (match tryRecover (b.atR a (.inRegion ops (i::rest)::k)) cs with
   |some (v,cs')=>G (b.atR (a.put o.dst v) (.inRegion ops rest::k)) cs'
   |none=>G (b.atR (a.put o.dst .nilIface) (.inRegion ops rest::k)) cs) w' (listed P b.fn a o w):=by
 have hfin:∀v,(b.atR a (.inRegion ops (i::rest)::k)).finish v=b.atR (a.put o.dst v) (.inRegion ops rest::k):=finR b a ho
 have hk':(b.kind==CallKind.early)=false:=by simpa using hk
 rw[stR_oper (.inl hb) ho hw]
 simp only[<-hfin]
 generalize hf:(b.atR a (.inRegion ops (i::rest)::k))=f
 have h1:f.roundOf=none:=by rw[<-hf];exact hb
 have h2:f.fn=b.fn:=by rw[<-hf];rfl
 have h3:f.kind=b.kind:=by rw[<-hf];rfl
 cases hx:tryRecover f cs with
 |none=>simp[stepG.apply,hr,G,h1,h2,h3,hx,hk',GStep.after,listed]
 |some x=>simp[stepG.apply,hr,G,h1,h2,h3,hx,hk',GStep.after,listed]
theorem stR_drawn{id:Nat}(hm:P.follows .mixedOrders=true):
  ∃d t,stepG P main (G (b.atR a (.code (.region id ops true)::k)) cs) w=.go (G (b.atR a (.inRegion ops (Region.schedule true ops t)::k)) cs) (drawnAt w d):=by
 have hq:wq P (fun _=>True) (fun _ _=>False) (choose (.order b.fn id)) (fun t w'=>∃d,w'=drawnAt w d) w:=by
  rw[wq_choose]
  split
  ·exact⟨w.drawn,rfl⟩
  ·exact fun n=>⟨w.drawn+1,rfl⟩
 have:=(wq_run hq).1
 generalize hr:(choose (.order b.fn id)).run P w=r at this
 cases r with
 |ok t w'=>
  obtain⟨d,rfl⟩:=this
  exact⟨d,t,by simp[G,stepG,stepG.exec,Frame.atR,hr,hm]⟩
 |halt x w'=>cases x<;>exact this.elim
end
def Next(K:Ctx)(U:Nat->Prop)(ρ:Env)(cs:List Frame)(w:World)(h0:AH)(c:ACfg)(g':Goroutine)(w':World):Prop:=
 ∃ρ',Agree U ρ ρ'∧Keeps K.own w w'∧Grows K U h0 c.h∧CIds K (plus U h0.nb c.h.nb) c∧Gam K ρ' c cs g' w'
def Leads(K:Ctx)(main:Bool)(c c':ACfg)(N:Nat):Prop:=∀U ρ cs g w,CIds K U c->Gam K ρ c cs g w->Walk K.P main (DK K) (Next K U ρ cs w c.h c') N g w
def bot:FuncId->List AFrame->FuncId
 |f,[]=>f
 |_,fr::l=>bot fr.fn l
def EndsAs(K:Ctx)(f:FuncId)(ρ:Env)(e:AE)(cs:List Frame)(g:Goroutine)(w:World):Prop:=
 ∃fr fn,g=G fr cs∧fr.fn=f∧fr.defers=[]∧K.P.funcs[fr.fn]?=some fn∧match e with
  |.returned v=>fr.mode=.returning∧fr.kind=.normal∧∀d,∀{Q:Value->World->Prop},Q (v.ev ρ) (drawnAt w d)->wq K.P K.Ev (fun _ _=>False) (results fn fr.tmps) Q (drawnAt w d)
  |.panicked chain=>fr.mode=(AMode.panicking chain).ev ρ
def AE.In(U:Nat->Prop):AE->Prop
 |.returned v=>v.In U
 |.panicked chain=>∀x∈chain,x.1.In U
def Done(K:Ctx)(f:FuncId)(U:Nat->Prop)(ρ:Env)(cs:List Frame)(w:World)(h0:AH)(r:AE×AH)(g':Goroutine)(w':World):Prop:=
 ∃ρ',Agree U ρ ρ'∧Keeps K.own w w'∧Grows K U h0 r.2∧r.1.In (plus U h0.nb r.2.nb)∧Rel K ρ' r.2 w'∧EndsAs K f ρ' r.1 cs g' w'
def Ends(K:Ctx)(main:Bool)(c:ACfg)(r:AE×AH)(N:Nat):Prop:=∀U ρ cs g w,CIds K U c->Gam K ρ c cs g w->Walk K.P main (DK K) (Done K (bot c.cur.fn c.callers) U ρ cs w c.h r) N g w
section
variable {K:Ctx}{main:Bool}{U:Nat->Prop}{ρ:Env}{cs:List Frame}
theorem CIds.congr{U U':Nat->Prop}{c:ACfg}(I:CIds K U c)(h:∀n,U n↔U' n):CIds K U' c:=
 ⟨I.cur.mono fun n=>(h n).1,fun fr hf=>(I.callers fr hf).mono fun n=>(h n).1,I.ids.congr h⟩
theorem plus_same(U:Nat->Prop)(a n:Nat):U n↔plus U a a n:=⟨.inl,plus_none n⟩
theorem AE.In.mono{U U':Nat->Prop}(hs:∀n,U n->U' n){e:AE}(h:e.In U):e.In U':=by
 cases e with
 |returned v=>exact AV.In.mono hs _ h
 |panicked c=>exact fun x hx=>AV.In.mono hs _ (h x hx)
theorem Next.trans{w w' w'':World}{h0:AH}{c c':ACfg}{g'':Goroutine}{ρ':Env}(A:Agree U ρ ρ')(k:Keeps K.own w w')(gr:Grows K U h0 c.h)
 (n:Next K (plus U h0.nb c.h.nb) ρ' cs w' c.h c' g'' w''):Next K U ρ cs w h0 c' g'' w'':=by
 obtain⟨ρ'',a1,a2,a3,a4,a5⟩:=n
 exact⟨ρ'',A.trans a1 plus_sub,k.trans a2,gr.trans a3,a4.congr fun n=>plus_plus gr.nb a3.nb n,a5⟩
theorem Done.trans{w w' w'':World}{h0:AH}{f:FuncId}{c:ACfg}{r:AE×AH}{g'':Goroutine}{ρ':Env}(A:Agree U ρ ρ')(k:Keeps K.own w w')(gr:Grows K U h0 c.h)
 (n:Done K f (plus U h0.nb c.h.nb) ρ' cs w' c.h r g'' w''):Done K f U ρ cs w h0 r g'' w'':=by
 obtain⟨ρ'',a1,a2,a3,a4,a5,a6⟩:=n
 exact⟨ρ'',A.trans a1 plus_sub,k.trans a2,gr.trans a3,a4.mono fun n=>(plus_plus gr.nb a3.nb n).1,a5,a6⟩
theorem Leads.trans{c c' c'':ACfg}{N M:Nat}(l:Leads K main c c' N)(l':Leads K main c' c'' M):Leads K main c c'' (N+M):=fun U ρ cs g w I Γ=>
 Walk.trans (fun g' w' ⟨ρ',a1,a2,a3,a4,a5⟩=>(l' _ ρ' cs g' w' a4 a5).weaken fun _ _ n=>Next.trans a1 a2 a3 n) (l U ρ cs g w I Γ)
theorem Leads.ends{c c':ACfg}{r:AE×AH}{N M:Nat}(hb:bot c'.cur.fn c'.callers=bot c.cur.fn c.callers)(l:Leads K main c c' N)(l':Ends K main c' r M):Ends K main c r (N+M):=fun U ρ cs g w I Γ=>
 Walk.trans (fun g' w' ⟨ρ',a1,a2,a3,a4,a5⟩=>(l' _ ρ' cs g' w' a4 a5).weaken fun _ _ n=>by rw[hb]at n;exact Done.trans a1 a2 a3 n) (l U ρ cs g w I Γ)
theorem keeps_drawn(own:Nat->Prop)(w:World)(d:Nat):Keeps own w (drawnAt w d):=⟨fun _ _=>rfl,Nat.le_refl _,rfl,rfl,rfl⟩
theorem Rel.drawn{h:AH}{w:World}(R:Rel K ρ h w)(d:Nat):Rel K ρ h (drawnAt w d):=R.at rfl
theorem Gam.drawn{c:ACfg}{g:Goroutine}{w:World}(h:Gam K ρ c cs g w)(d:Nat):Gam K ρ c cs g (drawnAt w d):=⟨h.1.drawn d,h.2⟩
theorem Gam.running{c:ACfg}{g:Goroutine}{w:World}(h:Gam K ρ c cs g w):g.status=.running:=by
 obtain⟨_,fr,frs,_,_,rfl⟩:=h;rfl
theorem leads_go{c c':ACfg}(hh:c'.h=c.h)(hin:∀U,CIds K U c->CIds K U c')(hs:∀ρ cs g w,Gam K ρ c cs g w->∃g',stepG K.P main g w=.go g' w #[]∧Gam K ρ c' cs g' w):
  Leads K main c c' 1:=fun U ρ cs g w I Γ=>Walk.one Γ.running fun d=>by
 obtain⟨g',e,Γ'⟩:=hs ρ cs g _ (Γ.drawn d)
 rw[e]
 refine⟨⟨Keeps.refl _ _,fun e he=>(by simp at he),fun _ _ _ _ x=>x⟩,ρ,Agree.refl _ _,keeps_drawn _ _ _,?_,?_,Γ'⟩
 ·rw[hh];exact Grows.refl I.ids
 ·rw[hh];exact(hin U I).congr (plus_same U _)
section frame
variable {fn:FuncId}{nt:Nat}{tmps:TT}{todo todo':List Item}{defers:List AD}{kind:CallKind}{callers:List AFrame}{h:AH}
theorem gam_run{g:Goroutine}{w:World}:Gam K ρ ⟨⟨fn,nt,tmps,todo,defers,.run,kind⟩,callers,h⟩ cs g w↔
  Rel K ρ h w∧∃tm frs,TmpR ρ nt tmps tm∧(plainK kind∨kind=.wrapped)∧(∃f,K.P.funcs[fn]?=some f)∧FrRels K.P ρ callers frs∧g=G ((bB ρ fn kind).atR (aB ρ kind tm defers) todo) (frs++cs):=by
 constructor
 ·rintro⟨R,fr,frs,⟨tm,td,i,rfl⟩,hc,rfl⟩
  have:td=todo:=i.todo rfl
  subst this
  exact⟨R,tm,frs,i.tmps,i.kind,i.fn,hc,rfl⟩
 ·rintro⟨R,tm,frs,h1,h2,h3,hc,rfl⟩
  exact⟨R,_,frs,⟨tm,todo,⟨h1,h2,fun _=>rfl,h3⟩,rfl⟩,hc,rfl⟩
theorem leads_to(hs:∀ρ tm w cs,Rel K ρ h w->TmpR ρ nt tmps tm->∀(b:Frame) (ds:List Deferred),stepG K.P main (G (b.atR ⟨tm,ds⟩ todo) cs) w=.go (G (b.atR ⟨tm,ds⟩ todo') cs) w #[]):
  Leads K main ⟨⟨fn,nt,tmps,todo,defers,.run,kind⟩,callers,h⟩ ⟨⟨fn,nt,tmps,todo',defers,.run,kind⟩,callers,h⟩ 1:=
 leads_go rfl (fun U I=>⟨⟨I.cur.tmps,I.cur.defers,trivial⟩,I.callers,I.ids⟩) fun ρ cs g w Γ=>by
  obtain⟨R,tm,frs,h1,h2,h3,hc,rfl⟩:=gam_run.1 Γ
  exact⟨_,hs ρ tm w _ R h1 _ _,gam_run.2 ⟨R,tm,frs,h1,h2,h3,hc,rfl⟩⟩
theorem leads_ret(ht:tagged kind=false)(hs:∀(b:Frame) (a:Act) w cs,b.roundOf=none->stepG K.P main (G (b.atR a todo) cs) w=.go (G {b.atR a todo with mode:=.returning} cs) w #[]):
  Leads K main ⟨⟨fn,nt,tmps,todo,defers,.run,kind⟩,callers,h⟩ ⟨⟨fn,nt,tmps,todo',defers,.returning,kind⟩,callers,h⟩ 1:=
 leads_go rfl (fun U I=>⟨⟨I.cur.tmps,I.cur.defers,trivial⟩,I.callers,I.ids⟩) fun ρ cs g w Γ=>by
  obtain⟨R,tm,frs,h1,h2,h3,hc,rfl⟩:=gam_run.1 Γ
  exact⟨_,hs _ _ w _ (plain_round (plain_of h2 ht) ρ fn),R,_,frs,⟨tm,todo,⟨h1,h2,(fun x=>by cases x),h3⟩,rfl⟩,hc,rfl⟩
theorem leads_unwanted{ops:Array Oper}{i:Nat}{rest:List Nat}{k:List Item}{o:Oper}(ho:ops[i]?=some o)(hw:wantedA K.O ops tmps o=.ok false):
  Leads K main ⟨⟨fn,nt,tmps,.inRegion ops (i::rest)::k,defers,.run,kind⟩,callers,h⟩ ⟨⟨fn,nt,putA nt tmps o.dst undefA,.inRegion ops rest::k,defers,.run,kind⟩,callers,h⟩ 1:=fun U ρ cs g w I Γ=>by
 have hnt:nt≤60000:=by obtain⟨R,tm,frs,h1,_⟩:=gam_run.1 Γ;exact h1.le
 have hin:∀U,CIds K U ⟨⟨fn,nt,tmps,.inRegion ops (i::rest)::k,defers,.run,kind⟩,callers,h⟩->CIds K U ⟨⟨fn,nt,putA nt tmps o.dst undefA,.inRegion ops rest::k,defers,.run,kind⟩,callers,h⟩:=fun U I=>
  ⟨⟨putA_in I.cur.tmps (by simp[undefA,AV.In,AV.Ins]) hnt,I.cur.defers,trivial⟩,I.callers,I.ids⟩
 have L:Leads K main ⟨⟨fn,nt,tmps,.inRegion ops (i::rest)::k,defers,.run,kind⟩,callers,h⟩ ⟨⟨fn,nt,putA nt tmps o.dst undefA,.inRegion ops rest::k,defers,.run,kind⟩,callers,h⟩ 1:=by
  refine leads_go rfl hin ?_
  intro ρ cs g w Γ
  obtain⟨R,tm,frs,h1,h2,h3,hc,rfl⟩:=gam_run.1 Γ
  obtain⟨tm',e,h1'⟩:=put_tmps (v:=undefA) h1 (dB ρ kind (defers.map (AD.ev ρ))) o.dst
  refine⟨_,stR_unwanted ho (wantedA_ok R h1 hw),gam_run.2 ⟨R,tm',frs,h1',h2,h3,hc,?_⟩⟩
  show G ((bB ρ fn kind).atR (Act.put ⟨tm,dB ρ kind (defers.map (AD.ev ρ))⟩ o.dst (undefA.ev ρ)) _) _=_
  rw[e];rfl
 exact L U ρ cs g w I Γ
end frame
section op
variable {P:Program}{b:Frame}{a:Act}{k:List Item}{w:World}{ops:Array Oper}{i:Nat}{rest:List Nat}{o:Oper}{w':World}
end op
theorem op?_defer{P:Program}{O:Orc}{ext:Ext}{h h':AH}{f:Operand->AV}{o:Oper}{n:AN}{c:Call}(he:op? P O ext h f o=.ok (n,h'))(hc:o.op=.defer c):∃d,n=.defer d:=by
 unfold op? at he
 rw[hc]at he
 dsimp only at he
 split at he
 ·cases he;exact⟨_,rfl⟩
 ·cases he
def NextG(P:Program)(ρ:Env)(b:Frame)(a:Act)(dst:Option Tmp)(ops:Array Oper)(i:Nat)(rest:List Nat)(k:List Item)(cs:List Frame):AN->Goroutine->Prop
 |.value v,g=>g=G (b.atR (a.put dst (v.ev ρ)) (.inRegion ops rest::k)) cs
 |.skip,g=>g=G (b.atR (a.put dst undef) (.inRegion ops rest::k)) cs
 |.enter f args,g=>g=G (Frame.enter P f (AV.evs ρ args).toArray .normal) (b.atR a (.inRegion ops (i::rest)::k)::cs)
 |.defer d,g=>g=G (b.atR (({a with defers:=d.ev ρ::a.defers}:Act).put dst undef) (.inRegion ops rest::k)) cs
 |.recover,g=>g=match tryRecover (b.atR a (.inRegion ops (i::rest)::k)) cs with
  |some (v,cs')=>G (b.atR (a.put dst v) (.inRegion ops rest::k)) cs'
  |none=>G (b.atR (a.put dst .nilIface) (.inRegion ops rest::k)) cs
 |.panic v,g=>g=G ((b.atR a (.inRegion ops (i::rest)::k)).raise [{v:=v.ev ρ,recovered:=false}]) cs
def OpPost(K:Ctx)(U:Nat->Prop)(ρ:Env)(cs:List Frame)(w:World)(fn:FuncId)(nt:Nat)(tmps:TT)(defers:List AD)(kind:CallKind)(callers:List AFrame)(h:AH)(dst:Option Tmp)(ops:Array Oper)(i:Nat)(rest:List Nat)(k:List Item)
 (n:AN)(h':AH)(g':Goroutine)(w':World):Prop:=
 ∃ρ',Agree U ρ ρ'∧Keeps K.own w w'∧Rel K ρ' h' w'∧Grows K U h h'∧n.In (plus U h.nb h'.nb)∧∃tm frs,TmpR ρ' nt tmps tm∧(plainK kind∨kind=.wrapped)∧(∃f,K.P.funcs[fn]?=some f)∧FrRels K.P ρ' callers frs∧
  NextG K.P ρ' (bB ρ' fn kind) (aB ρ' kind tm defers) dst ops i rest k (frs++cs) n g'
theorem op_step(Gd:K.Good)(F:K.Facts){ext:Ext}(X:ExtOk K ext){fn:FuncId}{nt:Nat}{tmps:TT}{defers:List AD}{kind:CallKind}{callers:List AFrame}{h:AH}{ops:Array Oper}{i:Nat}{rest:List Nat}{k:List Item}{o:Oper}{n:AN}{h':AH}
 (ho:ops[i]?=some o)(hw:wantedA K.O ops tmps o=.ok true)(he:op? K.P K.O ext h (evalA tmps) o=.ok (n,h'))(htag:tagOk kind n=true){g:Goroutine}{w:World}
 (I:CIds K U ⟨⟨fn,nt,tmps,.inRegion ops (i::rest)::k,defers,.run,kind⟩,callers,h⟩)(Γ:Gam K ρ ⟨⟨fn,nt,tmps,.inRegion ops (i::rest)::k,defers,.run,kind⟩,callers,h⟩ cs g w):
  Walk K.P main (DK K) (OpPost K U ρ cs w fn nt tmps defers kind callers h o.dst ops i rest k n h') 1 g w:=Walk.one Γ.running fun d=>by
 obtain⟨R,tm,frs,h1,h2,h3,hc,rfl⟩:=gam_run.1 (Γ.drawn d)
 have N:=op?_ok Gd F X R I.ids (evalA_in I.cur.tmps) he
 have hev:(aB ρ kind tm defers).eval=fun x=>(evalA tmps x).ev ρ:=funext fun x=>evalA_ev h1 _ x
 have hwt:Region.wanted o (yielded ops (aB ρ kind tm defers).tmps)=true:=wantedA_ok R h1 hw
 have hke:=bB_kind h2 ρ fn
 have hfree:FreeOp (bB ρ fn kind) o:=by
  cases ht:tagged kind with
  |false=>exact .inl (plain_round (plain_of h2 ht) ρ fn)
  |true=>
   refine .inr fun c hc=>?_
   obtain⟨d,rfl⟩:=op?_defer he hc
   unfold tagOk at htag
   rw[ht]at htag
   cases htag
 have hround:tagged kind=false->(bB ρ fn kind).roundOf=none:=fun ht=>plain_round (plain_of h2 ht) ρ fn
 have htd:∀{d:AD},n=.defer d->tagged kind=false:=fun e=>by
  subst e
  cases ht:tagged kind with
  |false=>rfl
  |true=>unfold tagOk at htag;rw[ht]at htag;cases htag
 have htr:n=.recover->tagged kind=false:=fun e=>by
  subst e
  cases ht:tagged kind with
  |false=>rfl
  |true=>unfold tagOk at htag;rw[ht]at htag;cases htag
 have run:=wq_run (wq_keep Gd.noWr _ (N.run (E:=fun v w'=>∃v',n=.panic v'∧h'=h∧v=v'.ev ρ∧w'=drawnAt w d) (Q:=fun nx w'=>After K U ρ (drawnAt w d) h' (fun ρ'=>n.is ρ' nx) w') (fun nx w' x=>x) (fun v hn hh=>⟨v,hn,hh,rfl,rfl⟩)))
 rw[<-hev]at run
 obtain⟨run,hes⟩:=run
 have hes':∀e∈listed K.P (bB ρ fn kind).fn (aB ρ kind tm defers) o (drawnAt w d),K.Ev e:=fun e he=>hes e (mem_listed he)
 have post:∀{ρ':Env} {w':World} {g':Goroutine},Agree U ρ ρ'->Rel K ρ' h' w'->Keeps K.own (drawnAt w d) w'->
   NextG K.P ρ' (bB ρ fn kind) (aB ρ kind tm defers) o.dst ops i rest k (frs++cs) n g'->
   OpPost K U ρ cs w fn nt tmps defers kind callers h o.dst ops i rest k n h' g' w':=fun A R' k x=>
  ⟨_,A,(keeps_drawn _ w d).trans k,R',N.grows,N.mem,tm,frs,h1.agree A I.cur.tmps,h2,h3,callers_agree A hc I.callers,by rw[bB_agree A,aB_agree A kind tm I.cur.defers];exact x⟩
 generalize hr:(execOp (aB ρ kind tm defers).eval o).run K.P (drawnAt w d)=r at run
 cases r with
 |ok nx w'=>
  obtain⟨⟨ρ',A,R',kp,is⟩,hst⟩:=run
  cases n with
  |value v=>
   have is':nx=.value (v.ev ρ'):=is
   subst is'
   rw[stR_value hfree ho hwt hke hr]
   exact⟨⟨kp,hes',hst⟩,post A R' kp rfl⟩
  |skip=>
   have is':nx=.skip:=is
   subst is'
   rw[stR_none hfree ho hwt hke hr]
   exact⟨⟨kp,hes',hst⟩,post A R' kp rfl⟩
  |enter f args=>
   have is':nx=.enter f (AV.evs ρ' args).toArray:=is
   subst is'
   rw[stR_enter hfree ho hwt hke hr]
   exact⟨⟨kp,hes',hst⟩,post A R' kp rfl⟩
  |defer x=>
   have is':nx=.defer (x.ev ρ'):=is
   subst is'
   rw[stR_defer (hround (htd rfl)) ho hwt hke hr]
   exact⟨⟨kp,hes',hst⟩,post A R' kp rfl⟩
  |recover=>
   have is':nx=.recover:=is
   subst is'
   rw[stR_recover (hround (htr rfl)) ho hwt hke hr]
   exact⟨⟨kp,hes',hst⟩,post A R' kp rfl⟩
  |panic v=>exact is.elim
 |halt x w'=>
  cases x with
  |panic v=>
   obtain⟨v',rfl,rfl,rfl,rfl⟩:=run
   rw[stR_panic hfree ho hwt hke hr]
   exact⟨⟨Keeps.refl _ _,hes',fun _ _ _ _ x=>x⟩,post (Agree.refl _ _) R (Keeps.refl _ _) rfl⟩
  |_=>exact run.elim
end
section
variable {K:Ctx}{main:Bool}{U:Nat->Prop}{ρ:Env}{cs:List Frame}
variable {fn:FuncId}{nt:Nat}{tmps:TT}{todo todo':List Item}{defers:List AD}{kind:CallKind}{callers:List AFrame}{h:AH}
variable {ops:Array Oper}{i:Nat}{rest:List Nat}{k:List Item}{o:Oper}
theorem finishA_ok{fr:AFrame}{v:AV}{fr':AFrame}(hf:finishA fr v=.ok fr'):∃fn nt tmps ops i rest k defers kind,fr=⟨fn,nt,tmps,.inRegion ops (i::rest)::k,defers,.run,kind⟩∧
  fr'=⟨fn,nt,putA nt tmps ((ops[i]?).bind (·.dst)) v,.inRegion ops rest::k,defers,.run,kind⟩:=by
 unfold finishA at hf
 split at hf
 ·cases hf;exact⟨_,_,_,_,_,_,_,_,_,rfl,rfl⟩
 ·cases hf
theorem undefA_in:undefA.In U:=by simp[undefA,AV.In,AV.Ins]
theorem tag_v{k:CallKind}{v:AV}:tagOk k (.value v)=true:=by unfold tagOk;cases tagged k<;>rfl
theorem tag_s{k:CallKind}:tagOk k .skip=true:=by unfold tagOk;cases tagged k<;>rfl
theorem tag_e{k:CallKind}{f:FuncId}{args:List AV}:tagOk k (.enter f args)=true:=by unfold tagOk;cases tagged k<;>rfl
theorem tag_p{k:CallKind}{v:AV}:tagOk k (.panic v)=true:=by unfold tagOk;cases tagged k<;>rfl
theorem aB_cons{ρ:Env}{k:CallKind}{tm:Array Value}{d:AD}{ds:List AD}:aB ρ k tm (d::ds)={aB ρ k tm ds with defers:=d.ev ρ::(aB ρ k tm ds).defers}:=by
 unfold aB;rw[List.map_cons,dB_cons]
theorem next_put{w w':World}{h':AH}{ρ':Env}{v:AV}{tm:Array Value}{frs:List Frame}{ds:List AD}{callers':List AFrame}{dst:Option Tmp}
 (A:Agree U ρ ρ')(kp:Keeps K.own w w')(R:Rel K ρ' h' w')(gr:Grows K U h h')(hv:v.In (plus U h.nb h'.nb))(ht:tmps.In U)(hd:∀d∈ds,d.In (plus U h.nb h'.nb))(hcal:∀fr∈callers',fr.In (plus U h.nb h'.nb))
 (h1:TmpR ρ' nt tmps tm)(h2:plainK kind∨kind=.wrapped)(h3:∃f,K.P.funcs[fn]?=some f)(hc:FrRels K.P ρ' callers' frs):
  Next K U ρ cs w h ⟨⟨fn,nt,putA nt tmps dst v,.inRegion ops rest::k,ds,.run,kind⟩,callers',h'⟩ (G ((bB ρ' fn kind).atR ((aB ρ' kind tm ds).put dst (v.ev ρ')) (.inRegion ops rest::k)) (frs++cs)) w':=by
 obtain⟨tm',e,h1'⟩:=put_tmps (v:=v) h1 (dB ρ' kind (ds.map (AD.ev ρ'))) dst
 refine⟨ρ',A,kp,gr,⟨⟨putA_in (TT.In.mono plus_sub ht) hv h1.le,hd,trivial⟩,hcal,gr.ids⟩,gam_run.2 ⟨R,tm',frs,h1',h2,h3,hc,?_⟩⟩
 show G ((bB ρ' fn kind).atR (Act.put ⟨tm,dB ρ' kind (ds.map (AD.ev ρ'))⟩ dst (v.ev ρ')) _) _=_
 rw[e];rfl
def RecIs(P:Program)(U:Nat->Prop)(ρ:Env)(cs:List Frame)(fr:Frame)(frs:List Frame):Option (AV×List AFrame)->Prop
 |some (v,callers')=>v.In U∧(∀fr∈callers',fr.In U)∧∃frs',tryRecover fr (frs++cs)=some (v.ev ρ,frs'++cs)∧FrRels P ρ callers' frs'
 |none=>tryRecover fr (frs++cs)=none
theorem tryRecover_ok{P:Program}{fr:Frame}{frs:List Frame}{r:Option (AV×List AFrame)}(hk:fr.kind=kind)(hr:recoverA kind callers=.ok r)(hc:FrRels P ρ callers frs)(hcal:∀fr∈callers,fr.In U):
  RecIs P U ρ cs fr frs r:=by
 cases kind with
 |normal=>
  cases hr
  show tryRecover _ _=none
  simp[tryRecover,hk]
 |deferred=>
  cases callers with
  |nil=>cases hr
  |cons c tail=>
   obtain⟨fn,nt,tmps,todo,defers,mode,kd⟩:=c
   cases frs with
   |nil=>simp only[FrRels]at hc
   |cons f frs=>
    simp only[FrRels]at hc
    obtain⟨⟨tm,td',is,rfl⟩,hc2⟩:=hc
    have other:r=none->(match mode.ev ρ with|.panicking ({v,recovered:=false,goexit:=false}::older)=>False|_=>True)->RecIs P U ρ cs fr (frameOf ρ ⟨fn,nt,tmps,todo,defers,mode,kd⟩ tm td'::frs) r:=by
     intro h1 h2
     subst h1
     show tryRecover _ _=none
     simp only[tryRecover,hk,List.cons_append]
     have:(frameOf ρ ⟨fn,nt,tmps,todo,defers,mode,kd⟩ tm td').mode=mode.ev ρ:=rfl
     rw[this]
     revert h2
     generalize mode.ev ρ=m
     split
     ·exact False.elim
     ·rename_i hne
      intro _
      split
      ·rename_i v older;exact absurd rfl (hne v older)
      ·rfl
    cases mode with
    |run=>cases hr;exact other rfl trivial
    |returning=>cases hr;exact other rfl trivial
    |panicking chain=>
     cases chain with
     |nil=>cases hr;exact other rfl trivial
     |cons x older=>
      obtain⟨v,b'⟩:=x
      cases b' with
      |true=>cases hr;exact other rfl trivial
      |false=>
       cases hr
       have hin:=hcal _ (List.mem_cons_self ..)
       have hm:∀x∈(v,false)::older,x.1.In U:=hin.mode
       refine⟨hm _ (List.mem_cons_self ..),?_,{frameOf ρ ⟨fn,nt,tmps,todo,defers,.panicking ((v,true)::older),kd⟩ tm td' with mode:=(AMode.panicking ((v,true)::older)).ev ρ}::frs,?_,⟨tm,td',⟨is.tmps,is.kind,(fun x=>by cases x),is.fn⟩,rfl⟩,hc2⟩
       ·intro fr hfr
        rcases List.mem_cons.1 hfr with rfl|hfr
        ·refine⟨hin.tmps,hin.defers,?_⟩
         intro x hx
         rcases List.mem_cons.1 hx with rfl|hx
         ·exact hm (v,false) (List.mem_cons_self ..)
         ·exact hm x (List.mem_cons_of_mem _ hx)
        ·exact hcal fr (List.mem_cons_of_mem _ hfr)
       ·simp only[tryRecover,hk,List.cons_append,frameOf,AMode.ev,List.map_cons]
 |_=>cases hr
theorem upon_next{n:AN}{h':AH}{c':ACfg}{w w':World}{g':Goroutine}(hu:upon K.P ⟨fn,nt,tmps,.inRegion ops (i::rest)::k,defers,.run,kind⟩ callers n h'=.ok c')(ho:ops[i]?=some o)
 (I:CIds K U ⟨⟨fn,nt,tmps,.inRegion ops (i::rest)::k,defers,.run,kind⟩,callers,h⟩)(post:OpPost K U ρ cs w fn nt tmps defers kind callers h o.dst ops i rest k n h' g' w'):Next K U ρ cs w h c' g' w':=by
 obtain⟨ρ',A,kp,R,gr,mem,tm,frs,h1,h2,h3,hc,ng⟩:=post
 have hd:∀d∈defers,d.In (plus U h.nb h'.nb):=fun d hd=>(I.cur.defers d hd).mono plus_sub
 have hcal:∀fr∈callers,fr.In (plus U h.nb h'.nb):=fun fr hf=>(I.callers fr hf).mono plus_sub
 cases n with
 |value v=>
  simp only[upon,finishA,ho]at hu
  cases hu
  have ng':g'=_:=ng
  rw[ng']
  exact next_put A kp R gr mem I.cur.tmps hd hcal h1 h2 h3 hc
 |skip=>
  simp only[upon,finishA,ho]at hu
  cases hu
  have ng':g'=_:=ng
  rw[ng']
  exact next_put (v:=undefA) A kp R gr undefA_in I.cur.tmps hd hcal h1 h2 h3 hc
 |defer d=>
  simp only[upon,finishA,ho]at hu
  cases hu
  have ng':g'=_:=ng
  rw[ng']
  rw[<-aB_cons]
  refine next_put (v:=undefA) (ds:=d::defers) A kp R gr undefA_in I.cur.tmps ?_ hcal h1 h2 h3 hc
  intro x hx
  rcases List.mem_cons.1 hx with rfl|hx
  ·exact mem
  ·exact hd x hx
 |enter f args=>
  simp only[upon]at hu
  split at hu
  ·rename_i fr' he
   cases hu
   have ng':g'=_:=ng
   rw[ng']
   obtain⟨e1,e2,e3,e4,e5⟩:=enterA_ok he (.inl rfl) mem (ρ:=ρ')
   refine⟨ρ',A,kp,gr,⟨e2,?_,gr.ids⟩,R,_,(bB ρ' fn kind).atR (aB ρ' kind tm defers) (.inRegion ops (i::rest)::k)::frs,e1,⟨⟨tm,_,⟨h1,h2,fun _=>rfl,h3⟩,rfl⟩,hc⟩,rfl⟩
   intro fr hfr
   rcases List.mem_cons.1 hfr with rfl|hfr
   ·exact I.cur.mono plus_sub
   ·exact hcal fr hfr
  ·cases hu
 |recover=>
  simp only[upon,finishA,ho]at hu
  have ng':g'=_:=ng
  rw[ng']
  split at hu
  ·cases hu
  ·rename_i v callers' hr
   cases hu
   have hpk:plainK kind:=by
    rcases h2 with h2|rfl
    ·exact h2
    ·cases hr
   obtain⟨t1,t2,frs',t3,t4⟩:=tryRecover_ok (cs:=cs) (fr:=(bB ρ' fn kind).atR (aB ρ' kind tm defers) (.inRegion ops (i::rest)::k)) (by rw[plain_bB hpk];rfl) hr hc hcal
   rw[t3]
   exact next_put A kp R gr t1 I.cur.tmps hd t2 h1 h2 h3 t4
  ·rename_i hr
   cases hu
   have hpk:plainK kind:=by
    rcases h2 with h2|rfl
    ·exact h2
    ·cases hr
   have t3:=tryRecover_ok (cs:=cs) (fr:=(bB ρ' fn kind).atR (aB ρ' kind tm defers) (.inRegion ops (i::rest)::k)) (by rw[plain_bB hpk];rfl) hr hc hcal
   simp only[RecIs]at t3
   rw[t3]
   exact next_put (v:=.nilIface) A kp R gr trivial I.cur.tmps hd hcal h1 h2 h3 hc
 |panic v=>
  simp only[upon,raiseA]at hu
  cases hu
  have ng':g'=_:=ng
  rw[ng']
  refine⟨ρ',A,kp,gr,⟨⟨TT.In.mono plus_sub I.cur.tmps,hd,?_⟩,hcal,gr.ids⟩,R,_,frs,⟨tm,_,⟨h1,h2,(fun x=>by cases x),h3⟩,rfl⟩,hc,rfl⟩
  intro x hx
  simp only[List.mem_singleton]at hx
  subst hx
  exact mem
end
def CallOk(K:Ctx)(main:Bool)(call:FuncId->List AV->AH->M (AE×AH)):Prop:=
 ∀f args h r,call f args h=.ok r->∃fr N,enterA K.P f args .normal=.ok fr∧Ends K main ⟨fr,[],h⟩ r N
section
variable {K:Ctx}{main:Bool}{U:Nat->Prop}{ρ:Env}{cs:List Frame}
variable {fn:FuncId}{nt:Nat}{tmps:TT}{todo todo':List Item}{defers:List AD}{kind:CallKind}{callers:List AFrame}{h:AH}
variable {ops:Array Oper}{i:Nat}{rest:List Nat}{k:List Item}{o:Oper}
theorem leave_step{f:FuncId}{ρ:Env}{v:AV}{caller:Frame}{g:Goroutine}{w:World}(E:EndsAs K f ρ (.returned v) (caller::cs) g w):Walk K.P main (DK K) (fun g' w'=>(∃d,w'=drawnAt w d)∧g'=G (caller.finish (v.ev ρ)) cs) 1 g w:=by
 obtain⟨fr,fnn,rfl,_,hd,hf,hm,hk,hq⟩:=E
 refine Walk.one rfl fun d=>?_
 have hrun:=wq_run (hq d (Q:=fun x w'=>x=v.ev ρ∧w'=drawnAt w d) ⟨rfl,rfl⟩)
 obtain⟨hrun,hes⟩:=hrun
 generalize hr:(results fnn fr.tmps).run K.P (drawnAt w d)=r at hrun
 cases r with
 |ok x w'=>
  obtain⟨rfl,rfl⟩:=hrun
  have:stepG K.P main (G fr (caller::cs)) (drawnAt w d)=.go (G (caller.finish (v.ev ρ)) cs) (drawnAt w d) (seen K.P fr.fn ((results fnn fr.tmps).events K.P (drawnAt w d) #[])):=by
   simp[G,stepG,unwind,doReturn,hm,hd,hf,hr,hk,GStep.after]
  rw[this]
  exact⟨⟨Keeps.refl _ _,fun e he=>hes e (mem_seen he),fun _ _ _ _ x=>x⟩,⟨d,rfl⟩,rfl⟩
 |halt x w'=>cases x<;>exact hrun.elim
theorem raise_step{f:FuncId}{ρ:Env}{chain:List (AV×Bool)}{caller:Frame}{g:Goroutine}{w:World}(E:EndsAs K f ρ (.panicked chain) (caller::cs) g w):
  Walk K.P main (DK K) (fun g' w'=>(∃d,w'=drawnAt w d)∧g'=G (caller.raise (chain.map fun x=>{v:=x.1.ev ρ,recovered:=x.2})) cs) 1 g w:=by
 obtain⟨fr,fnn,rfl,_,hd,hf,hm⟩:=E
 refine Walk.one rfl fun d=>?_
 have hm':fr.mode=.panicking (chain.map fun x=>{v:=x.1.ev ρ,recovered:=x.2}):=hm
 have:stepG K.P main (G fr (caller::cs)) (drawnAt w d)=.go (G (caller.raise (chain.map fun x=>{v:=x.1.ev ρ,recovered:=x.2})) cs) (drawnAt w d) #[]:=by
  simp[G,stepG,unwind,hm',hd,hf,Frame.catches]
 rw[this]
 exact⟨⟨Keeps.refl _ _,fun e he=>(by simp at he),fun _ _ _ _ x=>x⟩,⟨d,rfl⟩,rfl⟩
def ARNext(K:Ctx)(U:Nat->Prop)(ρ:Env)(cs:List Frame)(w:World)(h0:AH)(fn:FuncId)(nt:Nat)(todo:List Item)(defers:List AD)(kind:CallKind)(callers:List AFrame):AR->Goroutine->World->Prop
 |.on t h,g',w'=>Next K U ρ cs w h0 ⟨⟨fn,nt,t,todo,defers,.run,kind⟩,callers,h⟩ g' w'
 |.panic t chain h,g',w'=>∀td,Next K U ρ cs w h0 ⟨⟨fn,nt,t,td,defers,.panicking chain,kind⟩,callers,h⟩ g' w'
theorem opFull_ok(Gd:K.Good)(F:K.Facts){ext:Ext}(X:ExtOk K ext){call:FuncId->List AV->AH->M (AE×AH)}(C:CallOk K main call){r:AR}(he:opFull K.P K.O ext call nt ops i tmps h=.ok r):
  ∃N,∀{fn defers kind callers U ρ cs g w rest k},CIds K U ⟨⟨fn,nt,tmps,.inRegion ops (i::rest)::k,defers,.run,kind⟩,callers,h⟩->Gam K ρ ⟨⟨fn,nt,tmps,.inRegion ops (i::rest)::k,defers,.run,kind⟩,callers,h⟩ cs g w->
   Walk K.P main (DK K) (ARNext K U ρ cs w h fn nt (.inRegion ops rest::k) defers kind callers r) N g w:=by
 unfold opFull at he
 split at he
 ·cases he
 ·rename_i o ho
  split at he
  ·cases he
  ·rename_i hw
   cases he
   exact⟨1,fun I Γ=>leads_unwanted ho hw _ _ _ _ _ I Γ⟩
  ·rename_i hw
   split at he
   ·cases he
   ·rename_i v h' hop
    cases he
    refine⟨1,fun{fn defers kind callers U ρ cs g w rest k} I Γ=>(op_step Gd F X ho hw hop tag_v I Γ).weaken fun g' w' post=>upon_next (c':=⟨⟨fn,nt,putA nt tmps o.dst v,.inRegion ops rest::k,defers,.run,kind⟩,callers,h'⟩) ?_ ho I post⟩
    simp[upon,finishA,ho]
   ·rename_i h' hop
    cases he
    refine⟨1,fun{fn defers kind callers U ρ cs g w rest k} I Γ=>(op_step Gd F X ho hw hop tag_s I Γ).weaken fun g' w' post=>upon_next (c':=⟨⟨fn,nt,putA nt tmps o.dst undefA,.inRegion ops rest::k,defers,.run,kind⟩,callers,h'⟩) ?_ ho I post⟩
    simp[upon,finishA,ho]
   ·rename_i f args h' hop
    split at he
    ·rename_i v h'' hcall
     cases he
     obtain⟨fr,N,hen,E⟩:=C _ _ _ _ hcall
     refine⟨1+(N+1),fun{fn defers kind callers U ρ cs g w rest k} I Γ=>Walk.trans (fun g' w' post=>?_) (op_step Gd F X ho hw hop tag_e I Γ)⟩
     obtain⟨ρ',A,kp,R,gr,mem,tm,frs,h1,h2,h3,hc,ng⟩:=post
     have ng':g'=_:=ng
     obtain⟨e1,e2,e3,e4,e5⟩:=enterA_ok hen (.inl rfl) mem (ρ:=ρ')
     refine Walk.trans (fun g2 w2 done=>?_) (E (plus U h.nb h'.nb) ρ' ((bB ρ' fn kind).atR (aB ρ' kind tm defers) (.inRegion ops (i::rest)::k)::(frs++cs)) g' w' ⟨e2,(fun _ x=>by simp at x),gr.ids⟩ ⟨R,_,[],e1,trivial,ng'⟩)
     obtain⟨ρ2,A2,kp2,gr2,hv,R2,ends⟩:=done
     refine(leave_step ends).weaken fun g3 w3 ⟨⟨d,hw3⟩,hg3⟩=>?_
     subst hw3 hg3
     have gr02:=gr.trans gr2
     have A02:=A.trans A2 plus_sub
     have hd2:∀d∈defers,d.In (plus U h.nb h'.nb):=fun x hx=>(I.cur.defers x hx).mono plus_sub
     have hc2:=callers_agree A2 hc fun fr hf=>(I.callers fr hf).mono plus_sub
     have hv':v.In (plus U h.nb h''.nb):=AV.In.mono (fun n=>(plus_plus gr.nb gr2.nb n).1) _ hv
     have:=next_put (U:=U) (ρ:=ρ) (h:=h) (cs:=cs) (fn:=fn) (kind:=kind) (ops:=ops) (rest:=rest) (k:=k) (dst:=o.dst) (ds:=defers) A02 ((kp.trans kp2).trans (keeps_drawn _ w2 d)) (R2.drawn d) gr02 hv' I.cur.tmps (fun x hx=>(I.cur.defers x hx).mono plus_sub) (fun fr hf=>(I.callers fr hf).mono plus_sub)
      (h1.agree A2 (TT.In.mono plus_sub I.cur.tmps)) h2 h3 hc2
     rw[finR _ _ ho,<-bB_agree A2 fn kind,<-aB_agree A2 kind tm hd2]
     exact this
    ·rename_i chain h'' hcall
     cases he
     obtain⟨fr,N,hen,E⟩:=C _ _ _ _ hcall
     refine⟨1+(N+1),fun{fn defers kind callers U ρ cs g w rest k} I Γ=>Walk.trans (fun g' w' post=>?_) (op_step Gd F X ho hw hop tag_e I Γ)⟩
     obtain⟨ρ',A,kp,R,gr,mem,tm,frs,h1,h2,h3,hc,ng⟩:=post
     have ng':g'=_:=ng
     obtain⟨e1,e2,e3,e4,e5⟩:=enterA_ok hen (.inl rfl) mem (ρ:=ρ')
     refine Walk.trans (fun g2 w2 done=>?_) (E (plus U h.nb h'.nb) ρ' ((bB ρ' fn kind).atR (aB ρ' kind tm defers) (.inRegion ops (i::rest)::k)::(frs++cs)) g' w' ⟨e2,(fun _ x=>by simp at x),gr.ids⟩ ⟨R,_,[],e1,trivial,ng'⟩)
     obtain⟨ρ2,A2,kp2,gr2,hv,R2,ends⟩:=done
     refine(raise_step ends).weaken fun g3 w3 ⟨⟨d,hw3⟩,hg3⟩=>?_
     subst hw3 hg3
     intro td
     have gr02:=gr.trans gr2
     have A02:=A.trans A2 plus_sub
     have hd2:∀d∈defers,d.In (plus U h.nb h'.nb):=fun x hx=>(I.cur.defers x hx).mono plus_sub
     have hc2:=callers_agree A2 hc fun fr hf=>(I.callers fr hf).mono plus_sub
     have hv':∀x∈chain,x.1.In (plus U h.nb h''.nb):=fun x hx=>AV.In.mono (fun n=>(plus_plus gr.nb gr2.nb n).1) _ (hv x hx)
     refine⟨ρ2,A02,(kp.trans kp2).trans (keeps_drawn _ w2 d),gr02,⟨⟨TT.In.mono plus_sub I.cur.tmps,fun x hx=>(I.cur.defers x hx).mono plus_sub,hv'⟩,fun fr hf=>(I.callers fr hf).mono plus_sub,gr02.ids⟩,R2.drawn d,_,frs,
      ⟨tm,.inRegion ops (i::rest)::k,⟨h1.agree A2 (TT.In.mono plus_sub I.cur.tmps),h2,(fun x=>by cases x),h3⟩,rfl⟩,hc2,?_⟩
     rw[<-bB_agree A2 fn kind,<-aB_agree A2 kind tm hd2];rfl
    ·cases he
   ·rename_i v h' hop
    cases he
    refine⟨1,fun{fn defers kind callers U ρ cs g w rest k} I Γ=>(op_step Gd F X ho hw hop tag_p I Γ).weaken fun g' w' post=>?_⟩
    intro td
    have:=upon_next (c':=⟨⟨fn,nt,tmps,.inRegion ops (i::rest)::k,defers,.panicking [(v,false)],kind⟩,callers,h'⟩) rfl ho I post
    obtain⟨ρ',a1,a2,a3,a4,R,fr,frs,⟨tm,td',is,rfl⟩,hc,rfl⟩:=this
    exact⟨ρ',a1,a2,a3,⟨⟨a4.cur.tmps,a4.cur.defers,a4.cur.mode⟩,a4.callers,a4.ids⟩,R,_,frs,⟨tm,td',⟨is.tmps,is.kind,(fun x=>by cases x),is.fn⟩,rfl⟩,hc,rfl⟩
   ·cases he
end
def Sched(ops:Array Oper):List Nat->List Nat->Prop
 |s,[]=>readyIn ops s=[]
 |s,i::l=>i∈readyIn ops s∧Sched ops (i::s) l
def openIn(ops:Array Oper)(s:List Nat):List Nat:=(List.range ops.size).filter fun i=>!s.contains i
theorem openIn_cons{ops:Array Oper}{s:List Nat}{i:Nat}(hi:i∈openIn ops s):(openIn ops (i::s)).length<(openIn ops s).length:=by
 have:openIn ops (i::s)=(openIn ops s).filter fun j=>!(j==i):=by
  unfold openIn
  rw[List.filter_filter]
  apply List.filter_congr
  intro j _
  by_cases hj:j=i<;>simp[List.contains_cons,hj]
 rw[this]
 exact List.length_filter_lt_length_iff_exists.2 ⟨i,hi,by simp⟩
theorem readyIn_sub{ops:Array Oper}{s:List Nat}{i:Nat}(h:i∈readyIn ops s):i∈openIn ops s:=by
 unfold readyIn at h
 obtain⟨h1,h2⟩:=List.mem_filter.1 h
 exact List.mem_filter.2 ⟨h1,by simp only[Bool.and_eq_true]at h2;exact h2.1⟩
theorem readyIn_mem{ops:Array Oper}{s:List Nat}{i:Nat}(h:i∈readyIn ops s):i<ops.size∧i∉s:=by
 obtain⟨h1,h2⟩:=List.mem_filter.1 (readyIn_sub h)
 exact⟨List.mem_range.1 h1,by simpa using h2⟩
theorem go_sched(ops:Array Oper):∀(fuel t:Nat) (listed:Array Bool) (acc s:List Nat),listed.size=ops.size->(∀j,listed.getD j false=s.contains j)->(openIn ops s).length≤fuel->
  ∃l,Region.linearise.go .any ops fuel t listed acc=acc.reverse++l∧Sched ops s l:=by
 intro fuel
 induction fuel with
 |zero=>
  intro t listed acc s _ _ ho
  refine⟨[],by simp[Region.linearise.go],?_⟩
  show readyIn ops s=[]
  apply List.eq_nil_iff_forall_not_mem.2
  intro i hi
  have:=readyIn_sub hi
  rw[List.eq_nil_of_length_eq_zero (Nat.le_zero.1 ho)]at this
  cases this
 |succ fuel ih=>
  intro t listed acc s hsz hl ho
  have hrs:((List.range ops.size).filter fun i=>!listed.getD i true&&((ops[i]?).map (fun o=>o.after.all fun e=>!Region.binds .any e||listed.getD e.on false)).getD false)=readyIn ops s:=by
   unfold readyIn
   apply List.filter_congr
   intro i hi
   have hi':i<ops.size:=List.mem_range.1 hi
   have h1:listed.getD i true=listed.getD i false:=by
    rw[Array.getD_eq_getD_getElem?,Array.getD_eq_getD_getElem?,Array.getElem?_eq_getElem (by rw[hsz];exact hi')];rfl
   rw[h1,hl i,Array.getElem?_eq_getElem hi']
   simp only[Option.map_some,Option.getD_some,boundIn]
   congr 1
   congr 1
   funext e
   rw[hl e.on]
  rw[Region.linearise.go]
  simp only[hrs]
  split
  ·rename_i i hi
   have hmem:i∈readyIn ops s:=List.mem_of_getElem? hi
   obtain⟨hi1,hi2⟩:=readyIn_mem hmem
   have hl':∀j,(listed.setIfInBounds i true).getD j false=(i::s).contains j:=fun j=>by
    rw[Array.getD_eq_getD_getElem?,List.contains_cons]
    by_cases hj:j=i
    ·subst hj;simp[hsz,hi1]
    ·have:(j==i)=false:=by simpa using hj
     rw[this,Bool.false_or,<-hl j,Array.getD_eq_getD_getElem?,Array.getElem?_setIfInBounds_ne (fun x=>hj x.symm)]
   obtain⟨l,e,hs⟩:=ih (t / (readyIn ops s).length) (listed.setIfInBounds i true) (i::acc) (i::s) (by simpa using hsz) hl' (by have:=openIn_cons (readyIn_sub hmem);omega)
   exact⟨i::l,by rw[e];simp,hmem,hs⟩
  ·rename_i hn
   refine⟨[],by simp,?_⟩
   show readyIn ops s=[]
   rcases Nat.eq_zero_or_pos (readyIn ops s).length with h0|h0
   ·exact List.eq_nil_of_length_eq_zero h0
   ·rw[List.getElem?_eq_none_iff]at hn
    have:=Nat.mod_lt t h0
    omega
theorem schedule_sched(ops:Array Oper)(t:Nat):Sched ops [] (Region.schedule true ops t):=by
 obtain⟨l,e,h⟩:=go_sched ops ops.size t (Array.replicate ops.size false) [] [] (by simp) (fun j=>by
  rw[Array.getD_eq_getD_getElem?,Array.getElem?_replicate];split<;>simp) (by
  unfold openIn;exact Nat.le_trans (List.length_filter_le _ _) (by simp))
 have:Region.schedule true ops t=l:=by simp[Region.schedule,Region.linearise,e]
 rw[this];exact h
theorem sameSet_mem{a b:List Nat}(h:sameSet a b=true)(i:Nat):i∈a↔i∈b:=by
 unfold sameSet at h
 simp only[Bool.and_eq_true,List.all_eq_true,List.contains_iff_mem]at h
 exact⟨h.1 i,h.2 i⟩
theorem contains_congr{a b:List Nat}(h:∀i,i∈a↔i∈b)(i:Nat):a.contains i=b.contains i:=by
 have:=h i
 by_cases hi:i∈a
 ·simp[hi,this.1 hi]
 ·have:i∉b:=fun x=>hi (this.2 x)
  simp[hi,this]
theorem readyIn_congr{ops:Array Oper}{a b:List Nat}(h:∀i,i∈a↔i∈b):readyIn ops a=readyIn ops b:=by
 unfold readyIn
 apply List.filter_congr
 intro i _
 rw[contains_congr h]
 congr 1
 split
 ·unfold boundIn
  congr 1
  funext e
  rw[contains_congr h]
 ·rfl
theorem Sched.congr{ops:Array Oper}:∀{l a b:List Nat},(∀i,i∈a↔i∈b)->Sched ops a l->Sched ops b l
 |[],a,b,h,hs=>by
  have:readyIn ops a=[]:=hs
  show readyIn ops b=[]
  rw[<-readyIn_congr h];exact this
 |i::l,a,b,h,hs=>⟨by rw[<-readyIn_congr h];exact hs.1,Sched.congr (fun j=>by simp[h j]) hs.2⟩
def Us(U0:Nat->Prop)(h0:AH)(s:List Nat):Nat->Prop:=fun n=>U0 n∨∃j∈s,h0.nb+j*stride h0≤n∧n<h0.nb+(j+1)*stride h0
theorem stride_lim(h0:AH){i:Nat}(hi:i<65536){n:Nat}(hn:n<h0.nb+(i+1)*stride h0)(hn0:h0.nb+i*stride h0≤n):n<h0.lim:=by
 have h1:(i+1)*stride h0≤65536*stride h0:=Nat.mul_le_mul_right _ hi
 have h2:65536*stride h0≤h0.lim-h0.nb:=Nat.mul_div_le _ _
 omega
theorem ranges_apart{s i j n nb:Nat}(h1:nb+i*s≤n)(h2:n<nb+(i+1)*s)(h3:nb+j*s≤n)(h4:n<nb+(j+1)*s):i=j:=by
 rcases Nat.lt_trichotomy i j with h|h|h
 ·have:=Nat.mul_le_mul_right s (Nat.succ_le_of_lt h);simp only[Nat.succ_eq_add_one]at this;omega
 ·exact h
 ·have:=Nat.mul_le_mul_right s (Nat.succ_le_of_lt h);simp only[Nat.succ_eq_add_one]at this;omega
theorem Us_fresh{K:Ctx}{U0:Nat->Prop}{h0:AH}{s:List Nat}{i:Nat}(I0:Ids K U0 h0)(hi:i<65536)(hs:i∉s){n:Nat}(h1:h0.nb+i*stride h0≤n)(h2:n<h0.nb+(i+1)*stride h0):¬Us U0 h0 s n:=by
 rintro(x|⟨j,hj,x1,x2⟩)
 ·exact I0.fresh n (by omega) (stride_lim h0 hi h2 h1) x
 ·have:=ranges_apart h1 h2 x1 x2
  subst this
  exact hs hj
theorem Rel.hp{K:Ctx}{ρ:Env}{h h':AH}{w:World}(R:Rel K ρ h w)(e:h'.hp=h.hp):Rel K ρ h' w:=
 ⟨fun i b hb=>R.blk i b (by rw[<-e];exact hb),fun i b hb=>R.own' i b (by rw[<-e];exact hb),fun i j b c h1 h2=>R.inj i j b c (by rw[<-e];exact h1) (by rw[<-e];exact h2),R.bs,R.is,R.mem,R.room,fun i b hb=>R.lent i b (by rw[<-e];exact hb),R.low⟩
theorem Gam.hp{K:Ctx}{ρ:Env}{cur:AFrame}{callers:List AFrame}{h h':AH}{cs:List Frame}{g:Goroutine}{w:World}(Γ:Gam K ρ ⟨cur,callers,h⟩ cs g w)(e:h'.hp=h.hp):Gam K ρ ⟨cur,callers,h'⟩ cs g w:=
 ⟨Rel.hp Γ.1 e,Γ.2⟩
theorem CIds.lax{K:Ctx}{U U':Nat->Prop}{cur:AFrame}{callers:List AFrame}{h h':AH}(I:CIds K U ⟨cur,callers,h⟩)(e:h'.hp=h.hp)(hs:∀n,U n->U' n)(fr:∀n,h'.nb≤n->n<h'.lim->¬U' n):CIds K U' ⟨cur,callers,h'⟩:=
 ⟨I.cur.mono hs,fun fr hf=>(I.callers fr hf).mono hs,⟨fun i b hb=>ABlk.In.mono hs (I.ids.hp i b (by rw[<-e];exact hb)),fun i hi=>hs i (I.ids.keys i (by show i∈Go.Proofs.Ytmobbajggkjpgaa.SX.keys h.hp;rw[<-e];exact hi)),(by show(Go.Proofs.Ytmobbajggkjpgaa.SX.keys h'.hp).Nodup;rw[e];exact I.ids.nodup),fr,I.ids.orc.mono hs⟩⟩
section
variable {K:Ctx}{main:Bool}{nt:Nat}{ops:Array Oper}
theorem putLvl_ok{s:List Nat}{t:TT}{h:AH}:∀{L L':Lvl},putLvl s t h L=.ok L'->(∀e∈L,e∈L')∧∃s' h',(s',t,h')∈L'∧sameSet s s'=true∧h'.hp=h.hp
 |[],L',he=>by
  simp only[putLvl]at he
  cases he
  refine⟨(fun e x=>by cases x),s,h,List.mem_singleton.2 rfl,?_,rfl⟩
  simp[sameSet]
 |(s',t',h')::L,L',he=>by
  simp only[putLvl]at he
  split at he
  ·rename_i hs
   split at he
   ·rename_i hq
    cases he
    simp only[Bool.and_eq_true]at hq
    obtain rfl:=TT.eqb_eq hq.1
    exact⟨fun e x=>x,s',h',List.mem_cons_self ..,hs,(hpEqb_eq hq.2).symm⟩
   ·cases he
  ·split at he
   ·rename_i l hl
    cases he
    obtain⟨a,s2,h2,b,c,d⟩:=putLvl_ok hl
    refine⟨fun e x=>?_,s2,h2,List.mem_cons_of_mem _ b,c,d⟩
    rcases List.mem_cons.1 x with rfl|x
    ·exact List.mem_cons_self ..
    ·exact List.mem_cons_of_mem _ (a e x)
   ·cases he
def Forks(K:Ctx)(U0:Nat->Prop)(h0:AH)(ρ:Env)(cs:List Frame)(w:World)(fn:FuncId)(nt:Nat)(ops:Array Oper)(l:List Nat)(k:List Item)(defers:List AD)(kind:CallKind)(callers:List AFrame)(s1:List Nat)(L':Lvl)(g':Goroutine)(w':World):Prop:=
 ∃s' t' h',(s',t',h')∈L'∧(∀i,i∈s1↔i∈s')∧∃ρ',Agree U0 ρ ρ'∧Keeps K.own w w'∧CIds K (Us U0 h0 s') ⟨⟨fn,nt,t',.inRegion ops l::k,defers,.run,kind⟩,callers,bare h'⟩∧
  Gam K ρ' ⟨⟨fn,nt,t',.inRegion ops l::k,defers,.run,kind⟩,callers,h'⟩ cs g' w'
theorem Forks.sub{U0:Nat->Prop}{h0:AH}{ρ:Env}{cs:List Frame}{w:World}{fn:FuncId}{l:List Nat}{k:List Item}{defers:List AD}{kind:CallKind}{callers:List AFrame}{s1:List Nat}{L L':Lvl}{g':Goroutine}{w':World}
 (hs:∀e∈L,e∈L')(F:Forks K U0 h0 ρ cs w fn nt ops l k defers kind callers s1 L g' w'):Forks K U0 h0 ρ cs w fn nt ops l k defers kind callers s1 L' g' w':=by
 obtain⟨s',t',h',a,b⟩:=F
 exact⟨s',t',h',hs _ a,b⟩
theorem stepOne_ok(Gd:K.Good)(F:K.Facts){ext:Ext}(X:ExtOk K ext){call:FuncId->List AV->AH->M (AE×AH)}(C:CallOk K main call)(hops:ops.size≤65536){h0:AH}{s:List Nat}{t:TT}{h:AH}:
  ∀{r:List Nat} {L L':Lvl},stepOne K.P K.O ext call nt ops h0 s t h r L=.ok L'->(∀e∈L,e∈L')∧
   ∃N,∀i∈r,i<ops.size->i∉s->∀{fn defers kind callers U0 ρ cs g w l k},Ids K U0 h0->CIds K (Us U0 h0 s) ⟨⟨fn,nt,t,.inRegion ops (i::l)::k,defers,.run,kind⟩,callers,bare h⟩->
    Gam K ρ ⟨⟨fn,nt,t,.inRegion ops (i::l)::k,defers,.run,kind⟩,callers,h⟩ cs g w->Walk K.P main (DK K) (Forks K U0 h0 ρ cs w fn nt ops l k defers kind callers (i::s) L') N g w
 |[],L,L',he=>by
  simp only[stepOne]at he
  cases he
  exact⟨fun e x=>x,0,fun i x=>by cases x⟩
 |i::r,L,L',he=>by
  simp only[stepOne]at he
  split at he
  ·cases he
  ·cases he
  ·rename_i t' h' hop
   split at he
   ·rename_i hlim
    split at he
    ·rename_i L1 hput
     obtain⟨a1,s',hh,a2,a3,a4⟩:=putLvl_ok hput
     obtain⟨b1,N,b2⟩:=stepOne_ok Gd F X C hops he
     obtain⟨M,hM⟩:=opFull_ok Gd F X C hop
     refine⟨fun e x=>b1 e (a1 e x),N+M,fun j hj hj1 hj2 {fn defers kind callers U0 ρ cs g w l k} I0 I Γ=>?_⟩
     rcases List.mem_cons.1 hj with rfl|hj
     ·have I':CIds K (Us U0 h0 s) ⟨⟨fn,nt,t,.inRegion ops (j::l)::k,defers,.run,kind⟩,callers,rangeFor h0 j h⟩:=
       I.lax rfl (fun n x=>x) fun n x1 x2=>Us_fresh I0 (by omega) hj2 x1 x2
      refine((hM I' (Γ.hp rfl)).weaken fun g' w' nx=>?_).mono (Nat.le_add_left _ _)
      obtain⟨ρ',c1,c2,c3,c4,c5⟩:=nx
      refine⟨s',t',hh,b1 _ a2,sameSet_mem a3,ρ',c1.mono (fun n x=>.inl x),c2,?_,c5.hp a4⟩
      refine c4.lax a4 (fun n x=>?_) fun n x1 x2=>by simp[bare]at x2
      rcases x with(x|⟨q,q1,q2⟩)|x
      ·exact .inl x
      ·exact .inr ⟨q,(sameSet_mem a3 q).1 (List.mem_cons_of_mem _ q1),q2⟩
      ·have hl:h'.lim=(rangeFor h0 j h).lim:=c3.lim
       refine .inr ⟨j,(sameSet_mem a3 j).1 (List.mem_cons_self ..),x.1,?_⟩
       have hl2:h'.lim=h0.nb+(j+1)*stride h0:=hl
       have hx:=x.2
       dsimp only at hx
       omega
     ·exact(b2 j hj hj1 hj2 I0 I Γ).mono (Nat.le_add_right _ _)
    ·cases he
   ·cases he
theorem stepLvl_ok(Gd:K.Good)(F:K.Facts){ext:Ext}(X:ExtOk K ext){call:FuncId->List AV->AH->M (AE×AH)}(C:CallOk K main call)(hops:ops.size≤65536){h0:AH}:
  ∀{A L L':Lvl},stepLvl K.P K.O ext call nt ops h0 A L=.ok L'->(∀e∈L,e∈L')∧
   ∃N,∀s t h,(s,t,h)∈A->readyIn ops s≠[]∧∀i∈readyIn ops s,∀{fn defers kind callers U0 ρ cs g w l k},Ids K U0 h0->CIds K (Us U0 h0 s) ⟨⟨fn,nt,t,.inRegion ops (i::l)::k,defers,.run,kind⟩,callers,bare h⟩->
    Gam K ρ ⟨⟨fn,nt,t,.inRegion ops (i::l)::k,defers,.run,kind⟩,callers,h⟩ cs g w->Walk K.P main (DK K) (Forks K U0 h0 ρ cs w fn nt ops l k defers kind callers (i::s) L') N g w
 |[],L,L',he=>by
  simp only[stepLvl]at he
  cases he
  exact⟨fun e x=>x,0,fun s t h x=>by cases x⟩
 |(s,t,h)::A,L,L',he=>by
  simp only[stepLvl]at he
  split at he
  ·cases he
  ·rename_i hne
   split at he
   ·rename_i L1 h1
    obtain⟨a1,N,a2⟩:=stepOne_ok Gd F X C hops h1
    obtain⟨b1,M,b2⟩:=stepLvl_ok Gd F X C hops he
    refine⟨fun e x=>b1 e (a1 e x),N+M,fun s' t' h' hm=>?_⟩
    rcases List.mem_cons.1 hm with hq|hm
    ·cases hq
     refine⟨fun x=>hne (by simp[x]),fun i hi {fn defers kind callers U0 ρ cs g w l k} I0 I Γ=>?_⟩
     obtain⟨x1,x2⟩:=readyIn_mem hi
     exact((a2 i hi x1 x2 I0 I Γ).weaken fun g' w' f=>f.sub b1).mono (Nat.le_add_right _ _)
    ·obtain⟨c1,c2⟩:=b2 s' t' h' hm
     exact⟨c1,fun i hi {fn defers kind callers U0 ρ cs g w l k} I0 I Γ=>(c2 i hi I0 I Γ).mono (Nat.le_add_left _ _)⟩
   ·cases he
end
end Go.Proofs.Ytmobbajggkjpgaa.SX
