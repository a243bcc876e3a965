/-
  A symbolic run of the model, proved sound, and the walk of the code: a text of its parts. Conditions: none.
-/
import Derived.Test.YtmobbajggkjpgaaGB
set_option linter.unusedSectionVars false
set_option maxRecDepth 100000
set_option linter.unusedVariables false
set_option linter.unusedSimpArgs false
namespace Go.Proofs.Ytmobbajggkjpgaa.SX
def ATarget.ev(ρ:Env):ATarget->Target
 |.fn f c=>.fn f (AV.evs ρ c).toArray
 |.builtin b a t c=>.builtin b a t c
def AD.ev(ρ:Env)(d:AD):Deferred:={target:=d.target.ev ρ,args:=(AV.evs ρ d.args).toArray}
def ATarget.In(U:Nat->Prop):ATarget->Prop
 |.fn _ c=>AV.Ins U c
 |.builtin _ _ _ _=>True
def AD.In(U:Nat->Prop)(d:AD):Prop:=d.target.In U∧AV.Ins U d.args
def AN.is(ρ:Env):AN->Next->Prop
 |.value v,nx=>nx=.value (v.ev ρ)
 |.skip,nx=>nx=.skip
 |.enter f args,nx=>nx=.enter f (AV.evs ρ args).toArray
 |.defer d,nx=>nx=.defer (d.ev ρ)
 |.recover,nx=>nx=.recover
 |.panic _,_=>False
def AN.In(U:Nat->Prop):AN->Prop
 |.value v=>v.In U
 |.skip=>True
 |.enter _ args=>AV.Ins U args
 |.defer d=>d.In U
 |.recover=>True
 |.panic v=>v.In U
structure NOk(K:Ctx)(U:Nat->Prop)(ρ:Env)(h:AH)(w:World)(s:Sem Next)(n:AN)(h':AH):Prop where
 mem:n.In (plus U h.nb h'.nb)
 grows:Grows K U h h'
 run:∀{E:Value->World->Prop} {Q:Next->World->Prop},(∀nx w',After K U ρ w h' (fun ρ'=>n.is ρ' nx) w'->Q nx w')->(∀v,n=.panic v->h'=h->E (v.ev ρ) w)->wq K.P K.Ev E s Q w
section
variable {K:Ctx}{ρ:Env}{h:AH}{w:World}{U:Nat->Prop}
theorem valOp_ok{r:M AV}{n:AN}{h':AH}(he:valOp r h=.ok (n,h')):∃v,r=.ok v∧n=.value v∧h'=h:=by
 unfold valOp at he
 split at he
 ·cases he;exact⟨_,rfl,rfl,rfl⟩
 ·cases he
theorem allocOp_ok{r:M (AV×AH)}{n:AN}{h':AH}(he:allocOp r=.ok (n,h')):∃v,r=.ok (v,h')∧n=.value v:=by
 unfold allocOp at he
 split at he
 ·cases he;exact⟨_,rfl,rfl⟩
 ·cases he
theorem skipOp_ok{r:M AH}{n:AN}{h':AH}(he:skipOp r=.ok (n,h')):r=.ok h'∧n=.skip:=by
 unfold skipOp at he
 split at he
 ·cases he;exact⟨rfl,rfl⟩
 ·cases he
theorem HOk.next{s:Sem Value}{v:AV}{h':AH}(H:HOk K U ρ h w s v h'):NOk K U ρ h w (do Pure.pure (.value (<-s))) (.value v) h':=
 ⟨H.mem,H.grows,fun hq _=>by
  simp only[wq_bind,wq_pure]
  exact H.run fun x w' ⟨ρ',a1,a2,a3,a4⟩=>hq _ _ ⟨ρ',a1,a2,a3,by rw[a4];rfl⟩⟩
theorem NOk.pure(R:Rel K ρ h w)(I:Ids K U h){s:Sem Value}{v:AV}(hi:v.In U)(hw:∀{E Q:Value->World->Prop},Q (v.ev ρ) w->wq K.P K.Ev E s Q w):NOk K U ρ h w (do Pure.pure (.value (<-s))) (.value v) h:=
 (HOk.pure R I hi hw).next
theorem wq_len{E:Value->World->Prop}{argTypes:Array TypeId}{ty t:TypeId}{x:AV}{e:IE}(ht:argTypes[0]?=some t)(R:Rel K ρ h w)(G:K.Good)(he:lenOf? K.P h t x=.ok e){Q:Value->World->Prop}(hq:Q (.int .i64 (e.ev ρ)) w):
  wq K.P K.Ev E (Builtin.len_ argTypes ty #[x.ev ρ]) Q w:=by
 unfold lenOf? at he
 simp only[bind_ok]at he
 obtain⟨D,hD,he⟩:=he
 simp only[Builtin.len_,ht,List.getElem?_toArray,List.getElem?_cons_zero,wq_bind,wq_underlying (under?_ok hD)]
 split at he
 ·rw[pure_ok]at he;subst he;exact hq
 ·rw[pure_ok]at he;subst he;exact hq
 ·rw[pure_ok]at he;subst he
  simp only
  exact hq
 ·rw[pure_ok]at he;subst he;exact hq
 ·rw[pure_ok]at he;subst he;exact hq
 ·rw[pure_ok]at he;subst he;exact hq
 ·rw[pure_ok]at he;subst he;exact hq
 ·rename_i i
  split at he
  ·rename_i es hb
   rw[pure_ok]at he;subst he
   obtain⟨o,h1,h2⟩:=R.blk _ _ hb
   obtain⟨arr,clk,rfl,h3⟩:=is_map h2
   simp only[AV.ev,Option.map_some,BR.ev,wq_bind]
   refine wq_getObj h1 (by intros;simp) (G.obj _ _ _ (R.own _ _ hb rfl)) ?_
   have:arr.size=es.length:=by have:=congrArg List.length h3;simpa using this
   simp only[this]
   exact hq
  ·rename_i s n fs ws hb
   split at he
   ·rw[pure_ok]at he;subst he
    obtain⟨o,h1,h2⟩:=R.blk _ _ hb
    obtain⟨arr,clk,L,rfl,h3,h4,h5,h6⟩:=is_vmap h2
    simp only[AV.ev,Option.map_some,BR.ev,wq_bind]
    refine wq_getObj h1 (by intros;simp) (G.obj _ _ _ (R.own _ _ hb rfl)) ?_
    have:arr.size=(n.ev ρ).toNat:=by
     have:=congrArg List.length h5
     rw[<-h4]
     simpa using this
    simp only[this]
    exact hq
   ·cases he
  ·cases he
 ·cases he
theorem lenOf?_in(I:Ids K U h){t:TypeId}{x:AV}{e:IE}(he:lenOf? K.P h t x=.ok e)(hx:x.In U):e.In U:=by
 unfold lenOf? at he
 simp only[bind_ok]at he
 obtain⟨D,hD,he⟩:=he
 split at he
 ·rw[pure_ok]at he;subst he;trivial
 ·rw[pure_ok]at he;subst he;trivial
 ·rw[pure_ok]at he;subst he;trivial
 ·rw[pure_ok]at he;subst he;exact hx.2.1
 ·rw[pure_ok]at he;subst he;trivial
 ·rw[pure_ok]at he;subst he;trivial
 ·rw[pure_ok]at he;subst he;trivial
 ·split at he
  ·rw[pure_ok]at he;subst he;trivial
  ·rename_i s n fs ws hb
   split at he
   ·rw[pure_ok]at he;subst he;exact(I.hp _ _ hb).1
   ·cases he
  ·cases he
 ·cases he
theorem wq_min(R:Rel K ρ h w){E:Value->World->Prop}:∀{l:List AV} {x v:AV},minMax? K.O false x l=.ok v->∀{Q:Value->World->Prop},Q (v.ev ρ) w->wq K.P K.Ev E ((AV.evs ρ l).foldlM Builtin.min2 (x.ev ρ)) Q w:=by
 intro l
 induction l with
 |nil=>intro x v he Q hq;simp[minMax?]at he;subst he;exact hq
 |cons y l ih=>
  intro x v he Q hq
  unfold minMax? at he
  split at he
  ·rename_i hnil;cases hnil
  ·rename_i k x' k' y' l' hl
   cases hl
   split at he
   ·rename_i hk;subst hk
    simp only[bind_ok]at he
    obtain⟨t,ht,he⟩:=he
    have hd:=dec_ev R ht
    simp only[Bool.false_eq_true,if_false,BE.ev,icmp]at hd
    simp only[AV.evs,List.foldlM_cons,wq_bind,AV.ev,Builtin.min2,wq_pure]
    have:=ih he hq
    simp only[AV.ev]at this
    by_cases hlt:y'.ev ρ<x'.ev ρ
    ·rw[if_pos hlt]
     have ht':t=true:=by rw[<-hd];exact decide_eq_true hlt
     subst ht';exact this
    ·rw[if_neg hlt]
     have ht':t=false:=by rw[<-hd];exact decide_eq_false hlt
     subst ht';exact this
   ·cases he
  ·cases he
theorem wq_max(R:Rel K ρ h w){E:Value->World->Prop}:∀{l:List AV} {x v:AV},minMax? K.O true x l=.ok v->∀{Q:Value->World->Prop},Q (v.ev ρ) w->wq K.P K.Ev E ((AV.evs ρ l).foldlM Builtin.max2 (x.ev ρ)) Q w:=by
 intro l
 induction l with
 |nil=>intro x v he Q hq;simp[minMax?]at he;subst he;exact hq
 |cons y l ih=>
  intro x v he Q hq
  unfold minMax? at he
  split at he
  ·rename_i hnil;cases hnil
  ·rename_i k x' k' y' l' hl
   cases hl
   split at he
   ·rename_i hk;subst hk
    simp only[bind_ok]at he
    obtain⟨t,ht,he⟩:=he
    have hd:=dec_ev R ht
    simp only[if_true,BE.ev,icmp]at hd
    simp only[AV.evs,List.foldlM_cons,wq_bind,AV.ev,Builtin.max2,wq_pure]
    have:=ih he hq
    simp only[AV.ev]at this
    by_cases hlt:y'.ev ρ>x'.ev ρ
    ·rw[if_pos hlt]
     have ht':t=true:=by rw[<-hd];exact decide_eq_true hlt
     subst ht';exact this
    ·rw[if_neg hlt]
     have ht':t=false:=by rw[<-hd];exact decide_eq_false hlt
     subst ht';exact this
   ·cases he
  ·cases he
theorem minMax?_in{O:Orc}{mx:Bool}:∀{l:List AV} {x v:AV},minMax? O mx x l=.ok v->x.In U->AV.Ins U l->v.In U:=by
 intro l
 induction l with
 |nil=>intro x v he hx _;simp[minMax?]at he;subst he;exact hx
 |cons y l ih=>
  intro x v he hx hl
  unfold minMax? at he
  split at he
  ·rename_i hnil;cases hnil
  ·rename_i k x' k' y' l' hl'
   cases hl'
   split at he
   ·simp only[bind_ok]at he
    obtain⟨t,ht,he⟩:=he
    refine ih he ?_ hl.2
    cases t
    ·exact hx
    ·exact hl.1
   ·cases he
  ·cases he
theorem copy?_ok(G:K.Good)(R:Rel K ρ h w)(I:Ids K U h){argTypes:Array TypeId}{ty:TypeId}{d s v:AV}{h':AH}(hdi:d.In U)(he:copy? K.P K.O h argTypes d s=.ok (v,h')):HOk K U ρ h w (Builtin.copy_ argTypes ty #[d.ev ρ,s.ev ρ]) v h':=by
 unfold copy? at he
 split at he
 ·rename_i dType h0
  simp only[bind_ok]at he
  obtain⟨D,hD,he⟩:=he
  split at he
  ·rename_i elem
   simp only[bind_ok]at he
   obtain⟨size,hs,he⟩:=he
   split at he
   ·rename_i base dl c sb sl c2
    simp only[bind_ok]at he
    obtain⟨m,hm,n,hn,new,hnew,he⟩:=he
    obtain rfl:=litNat?_ok hm
    obtain rfl:=litNat?_ok hn
    have e0:(Int.ofNat m).toNat=m:=rfl
    have e1:(Int.ofNat n).toNat=n:=rfl
    have first:∀{E:Value->World->Prop} {Q':Array Value->World->Prop},Q' (AV.evs ρ new).toArray w->wq K.P K.Ev E (Builtin.firstCells size (Nat.min m n) (.slice (sb.map (AA.ev ρ)) m (c2.ev ρ).toNat)) Q' w:=by
     intro E Q' hq'
     unfold copyFrom? at hnew
     split at hnew
     ·simp only[Option.map_some,Builtin.firstCells,loadCells]
      exact loadN_sound R G hnew (by simpa using hq')
     ·cases hnew;exact hq'
    have hnin:AV.Ins U new:=by
     unfold copyFrom? at hnew
     split at hnew
     ·exact loadN_in I hnew
     ·cases hnew;trivial
    have front:∀{E:Value->World->Prop} {Q:Value->World->Prop},wq K.P K.Ev E (do
      if let some a:=base.map (AA.ev ρ)then storeCells a (AV.evs ρ new)
      Pure.pure (goInt (Nat.min m n:Nat)):Sem Value) Q w->wq K.P K.Ev E (Builtin.copy_ argTypes ty #[(AV.slice base (.lit (.ofNat n)) c).ev ρ,(AV.slice sb (.lit (.ofNat m)) c2).ev ρ]) Q w:=by
     intro E Q hq
     simp only[Builtin.copy_,h0,List.getElem?_toArray,List.getElem?_cons_zero,List.getElem?_cons_succ,wq_bind,wq_underlying (under?_ok hD),AV.ev,IE.ev,e0,e1,Builtin.lenOf,wq_pure,wq_sizeOf hs]
     refine first ?_
     exact hq
    unfold copyTo? at he
    split at he
    ·rename_i a
     split at he
     ·rename_i h2 hst
      cases he
      have hnb:=storeN_nb hst
      refine⟨trivial,Grows.of_same (storeN_ids hdi.1 I hst hnin) hnb.1 hnb.2,fun{E Q} hq=>front ?_⟩
      simp only[Option.map_some,wq_bind]
      refine storeN_sound G R hst fun w' r1 r2 _ _=>?_
      exact hq _ _ ⟨ρ,Agree.refl _ _,r1,r2,rfl⟩
     ·cases he
    ·cases he
     refine HOk.pure R I trivial fun{E Q} hq=>front ?_
     simp only[Option.map_none,wq_bind,wq_pure]
     exact hq
   ·cases he
  ·cases he
 ·cases he
theorem builtin?_ok(G:K.Good)(R:Rel K ρ h w)(I:Ids K U h){b:Builtin}{argTypes:Array TypeId}{ty:TypeId}{consts:Array Bool}{args:List AV}{n:AN}{h':AH}(ha:AV.Ins U args)(he:builtin? K.P K.O h b argTypes args=.ok (n,h')):
  NOk K U ρ h w (builtin b argTypes ty consts (AV.evs ρ args).toArray) n h':=by
 unfold builtin? at he
 split at he
 ·rename_i x
  split at he
  ·rename_i t ht
   split at he
   ·rename_i e hl
    cases he
    exact NOk.pure R I (v:=.int .i64 (K.O.int e)) (int_in I (lenOf?_in I hl ha.1)) fun{E Q} hq=>wq_len ht R G hl (by simpa only[AV.ev,int_ev R] using hq)
   ·cases he
  ·cases he
 ·rename_i a l c
  split at he
  ·rename_i t ht
   split at he
   ·rename_i elem hD
    cases he
    refine NOk.pure R I (v:=.int .i64 (K.O.int (.tn c))) (int_in I ha.1.2.2) fun{E Q} hq=>?_
    simp only[AV.ev,int_ev R,IE.ev]at hq
    simp only[AV.evs,AV.ev,Builtin.cap_,ht,List.getElem?_toArray,List.getElem?_cons_zero,wq_bind,wq_underlying (under?_ok hD),wq_pure]
    exact hq
   ·cases he
  ·cases he
 ·obtain⟨v,hv,rfl⟩:=allocOp_ok he
  exact(append?_ok G R I ha.1 ha.2.1 hv).next
 ·obtain⟨v,hv,rfl⟩:=allocOp_ok he
  exact(copy?_ok G R I ha.1 hv).next
 ·rename_i x l
  obtain⟨v,hv,rfl,rfl⟩:=valOp_ok he
  exact NOk.pure R I (minMax?_in hv ha.1 ha.2) fun{E Q} hq=>wq_min R hv hq
 ·rename_i x l
  obtain⟨v,hv,rfl,rfl⟩:=valOp_ok he
  exact NOk.pure R I (minMax?_in hv ha.1 ha.2) fun{E Q} hq=>wq_max R hv hq
 ·cases he
  exact⟨trivial,Grows.refl I,fun hq _=>hq _ _ (After.same R rfl)⟩
 ·rename_i t v
  cases he
  exact⟨AV.In.mono plus_sub (.iface t v) ha.1,Grows.refl I,fun hq hE=>hE _ rfl rfl⟩
 ·cases he
end
def fnOk(P:Program)(f:FuncId):Bool:=
 match P.funcs[f]? with
 |some fn=>!(fn.name== "runtime.NumGoroutine")&&fn.body.isSome
 |none=>false
structure ExtFact(P:Program)(f:FuncId)(e:Array Value->Sem Value):Prop where
 fact:∃fn,P.funcs[f]?=some fn∧(fn.name== "runtime.NumGoroutine")=false∧fn.body.isNone=true∧Extern.findNext fn=none∧Extern.find fn=some e
structure Ctx.Facts(K:Ctx):Prop where
 fns:K.O.fns.all (fnOk K.P)=true
 ext:∀p∈K.O.ext,ExtFact K.P p.1 p.2
 mixed:K.P.follows .mixedOrders=true
section
variable {K:Ctx}{ρ:Env}{h:AH}{w:World}{U:Nat->Prop}
theorem wq_enter{E:Value->World->Prop}{f:FuncId}{args:Array Value}(hf:fnOk K.P f=true){Q:Next->World->Prop}(hq:Q (.enter f args) w):wq K.P K.Ev E (callFunc f args) Q w:=by
 unfold fnOk at hf
 split at hf
 ·rename_i fn hfn
  simp only[Bool.and_eq_true,Bool.not_eq_true']at hf
  simp only[callFunc,wq_bind,wq_program,hfn]
  rw[if_neg (by rw[hf.1];simp),if_neg (by have:=hf.2;revert this;cases fn.body<;>simp)]
  exact hq
 ·cases hf
theorem wq_extern(G:K.Good){E:Value->World->Prop}{f:FuncId}{e:Array Value->Sem Value}{args:Array Value}(hf:ExtFact K.P f e){Q:Next->World->Prop}(hq:wq K.P K.Ev E (e args) (fun v w=>Q (.value v) w) w):wq K.P K.Ev E (callFunc f args) Q w:=by
 obtain⟨fn,h1,h2,h3,h4,h5⟩:=hf.fact
 simp only[callFunc,wq_bind,wq_program,h1]
 rw[if_neg (by rw[h2];simp),if_pos h3]
 simp only[wq_bind,wq_mark,h4,h5,wq_pure]
 exact⟨G.ext _ rfl,hq⟩
def ExtOk(K:Ctx)(ext:Ext):Prop:=∀{U:Nat->Prop} {ρ:Env} {h:AH} {w:World} {f:FuncId} {args:List AV} {v:AV} {h':AH},Rel K ρ h w->Ids K U h->AV.Ins U args->ext h f args=.ok (v,h')->
 NOk K U ρ h w (callFunc f (AV.evs ρ args).toArray) (.value v) h'
theorem invokeFn?_ok(G:K.Good)(F:K.Facts){ext:Ext}(X:ExtOk K ext)(R:Rel K ρ h w)(I:Ids K U h){f:FuncId}{args:List AV}{n:AN}{h':AH}(ha:AV.Ins U args)(he:invokeFn? K.P K.O ext h f args=.ok (n,h')):
  NOk K U ρ h w (callFunc f (AV.evs ρ args).toArray) n h':=by
 have viaExt:∀{r:M (AV×AH)},r=ext h f args->(match r with|.ok (v,h)=>(.ok (.value v,h):M (AN×AH))|.error e=>.error e)=.ok (n,h')->NOk K U ρ h w (callFunc f (AV.evs ρ args).toArray) n h':=by
  intro r hr hh
  split at hh
  ·cases hh;exact X R I ha hr.symm
  ·cases hh
 unfold invokeFn? at he
 split at he
 ·rename_i hc
  cases he
  have hf:fnOk K.P f=true:=List.all_eq_true.1 F.fns f (by simpa using hc)
  exact⟨AV.Ins.mono plus_sub _ ha,Grows.refl I,fun hq _=>wq_enter hf (hq _ _ (After.same R rfl))⟩
 ·split at he
  ·rename_i e hl
   obtain⟨x,hx,hxe⟩:=look_some hl
   have:f=x:=by simpa using hxe
   subst this
   split at he
   ·rename_i vs hvs
    split at he
    ·rename_i v hv
     cases he
     refine⟨ofValue_in _,Grows.refl I,fun hq _=>wq_extern G (F.ext _ hx) ?_⟩
     rw[vals?_evs ρ args hvs]
     exact wq_pureRun hv (hq _ _ (After.same R (by simp[AN.is,ofValue_ev])))
    ·exact viaExt rfl he
   ·exact viaExt rfl he
  ·exact viaExt rfl he
theorem wq_method{E:Value->World->Prop}{t:TypeId}{v r:AV}{name:String}{f:FuncId}(he:method? K.P t v name=.ok (f,r)){Q:FuncId×Value->World->Prop}(hq:Q (f,r.ev ρ) w):
  wq K.P K.Ev E (method (K.P.types.size+Made.depth) t (v.ev ρ) name) Q w:=by
 unfold method? at he
 split at he
 ·cases he
 ·rename_i i hi
  split at he
  ·cases he
  ·rename_i m hm
   split at he
   ·rename_i hp
    obtain⟨d,hd⟩:∃d,K.P.types.size+Made.depth=d+1:=⟨K.P.types.size+99,rfl⟩
    have hpe:m.path.toList=[]:=by simpa using hp
    rw[hd]
    simp only[method,wq_bind,wq_typeInfo hi,hm,hpe,follow,wq_pure]
    split at he
    ·rename_i f' hf
     split at he
     ·rename_i e hu
      cases he
      simp only[hf,receiverAt,wq_bind,wq_underlying hu,Place.get,wq_pure]
      exact hq
     ·cases he
    ·rename_i f' hf
     split at he
     ·cases he
     ·rename_i D hnp hu
      cases he
      simp only[hf,receiverAt,wq_bind,wq_underlying hu]
      cases D<;>first
       |exact absurd hu (hnp _)
       |exact hq
     ·cases he
    ·cases he
   ·split at he
    ·rename_i u hu
     split at he
     ·rename_i f' r' hr
      cases he
      rw[val?_ev ρ v hu]
      exact wq_pureRun hr (by simpa[ofValue_ev] using hq)
     ·cases he
    ·cases he
theorem method?_in{P:Program}{t:TypeId}{v r:AV}{name:String}{f:FuncId}(he:method? P t v name=.ok (f,r))(hv:v.In U):r.In U:=by
 unfold method? at he
 split at he
 ·cases he
 ·split at he
  ·cases he
  ·split at he
   ·split at he
    all_goals try (split at he)
    all_goals first|(cases he;exact hv)|cases he
   ·split at he
    ·split at he
     ·cases he;exact ofValue_in _
     ·cases he
    ·cases he
theorem invoke?_ok(G:K.Good)(F:K.Facts){ext:Ext}(X:ExtOk K ext)(R:Rel K ρ h w)(I:Ids K U h){d:AD}{n:AN}{h':AH}(hd:d.In U)(he:invoke? K.P K.O ext h d=.ok (n,h')):
  NOk K U ρ h w (invoke (d.target.ev ρ) (AV.evs ρ d.args).toArray) n h':=by
 obtain⟨target,args⟩:=d
 obtain⟨hd1,hd2⟩:=hd
 unfold invoke? at he
 dsimp only at he hd1 hd2⊢
 split at he
 ·exact builtin?_ok G R I hd2 he
 ·rename_i f captured
  have e:invoke (ATarget.ev ρ (.fn (.func f) captured)) (AV.evs ρ args).toArray=callFunc f (AV.evs ρ (args++captured)).toArray:=by
   simp[ATarget.ev,invoke,evs_append]
  rw[e]
  exact invokeFn?_ok G F X R I (Ins_iff.2 fun a ha=>(List.mem_append.1 ha).elim (Ins_iff.1 hd2 a) (Ins_iff.1 hd1 a)) he
 ·rename_i name captured
  split at he
  ·rename_i t v args'
   split at he
   ·rename_i f r hm
    have hr:=method?_in hm hd2.1
    obtain⟨r1,r2,r3⟩:=invokeFn?_ok G F X R I (args:=r::args') ⟨hr,hd2.2⟩ he
    refine⟨r1,r2,fun{E Q} hq hE=>?_⟩
    have e:(AV.evs ρ (AV.iface t v::args')).toArray=#[.iface t (v.ev ρ)]++(AV.evs ρ args').toArray:=by simp[AV.evs,AV.ev]
    simp only[ATarget.ev,invoke,e]
    have e0:(#[Value.iface t (v.ev ρ)]++(AV.evs ρ args').toArray)[0]?=some (.iface t (v.ev ρ)):=by simp
    have e1:(#[Value.iface t (v.ev ρ)]++(AV.evs ρ args').toArray).extract 1 (#[Value.iface t (v.ev ρ)]++(AV.evs ρ args').toArray).size=(AV.evs ρ args').toArray:=by
     simp
    rw[e0]
    simp only[callMethod,e1,wq_bind,wq_program]
    refine wq_method hm ?_
    have e2:#[r.ev ρ]++(AV.evs ρ args').toArray=(AV.evs ρ (r::args')).toArray:=by simp[AV.evs]
    simp only[e2]
    exact r3 hq hE
   ·cases he
  ·cases he
 ·cases he
theorem storeS?_ids(I:Ids K U h){t:TypeId}{a:AA}{v:AV}{h':AH}(hs:storeS? K.P K.O h t a v=.ok h')(ha:a.In U)(hv:v.In U):Ids K U h'∧h'.nb=h.nb∧h'.lim=h.lim:=by
 have old:∀{h':AH},storeVar? K.P h t a v=.ok h'->Ids K U h'∧h'.nb=h.nb∧h'.lim=h.lim:=fun hs=>by
  refine⟨storeVar?_ids I hs ha hv,?_⟩
  unfold storeVar? at hs
  simp only[bind_ok]at hs
  obtain⟨cs,hc,nn,hn,hs⟩:=hs
  split at hs
  ·exact storeN_nb hs
  ·cases hs
 unfold storeS? at hs
 split at hs
 ·split at hs
  ·unfold storeRow? at hs
   simp only[bind_ok]at hs
   obtain⟨cs,hc,hs⟩:=hs
   split at hs
   ·simp only[bind_ok]at hs
    obtain⟨size,hsz,ok,hok,n,hn,hs⟩:=hs
    split at hs<;>cases hs
    exact⟨I,rfl,rfl⟩
   ·cases hs
  ·exact old hs
 ·exact old hs
theorem wq_resolve{E:Value->World->Prop}{ρA:Operand->AV}{c:Call}{ty:TypeId}{d:AD}(he:resolve? ρA c ty=.ok d){Q:Deferred->World->Prop}(hq:Q (d.ev ρ) w):wq K.P K.Ev E (resolve (fun x=>(ρA x).ev ρ) c ty) Q w:=by
 have hargs:c.args.map (fun x=>(ρA x).ev ρ)=(AV.evs ρ (c.args.toList.map ρA)).toArray:=by
  rw[evs_map,List.map_map]
  apply Array.toList_inj.1
  simp[Function.comp_def]
 unfold resolve? at he
 split at he
 ·rename_i b hb
  cases he
  simp only[resolve,hb,hargs,wq_pure]
  exact hq
 ·rename_i recv name hb
  cases he
  simp only[resolve,hb,hargs,wq_pure]
  have:#[(ρA recv).ev ρ]++(AV.evs ρ (c.args.toList.map ρA)).toArray=(AV.evs ρ (ρA recv::c.args.toList.map ρA)).toArray:=by simp[AV.evs]
  rw[this]
  exact hq
 ·rename_i f hb
  split at he
  ·rename_i fn first captured hf
   cases he
   simp only[resolve,hb,hargs,hf,AV.ev,Deferred.ofValue,wq_pure]
   have:(AV.evs ρ first).toArray++(AV.evs ρ (c.args.toList.map ρA)).toArray=(AV.evs ρ (first++c.args.toList.map ρA)).toArray:=by simp[evs_append]
   rw[this]
   exact hq
  ·cases he
theorem resolve?_in{ρA:Operand->AV}{c:Call}{ty:TypeId}{d:AD}(he:resolve? ρA c ty=.ok d)(hA:∀x,(ρA x).In U):d.In U:=by
 have hargs:AV.Ins U (c.args.toList.map ρA):=Ins_iff.2 fun a ha=>by obtain⟨x,_,rfl⟩:=List.mem_map.1 ha;exact hA x
 unfold resolve? at he
 split at he
 ·cases he;exact⟨trivial,hargs⟩
 ·cases he;exact⟨trivial,hA _,hargs⟩
 ·rename_i f hb
  split at he
  ·rename_i fn first captured hf
   cases he
   have:=hA f
   rw[hf]at this
   exact⟨this.2,Ins_iff.2 fun a ha=>(List.mem_append.1 ha).elim (Ins_iff.1 this.1 a) (Ins_iff.1 hargs a)⟩
  ·cases he
theorem op?_ok(G:K.Good)(F:K.Facts){ext:Ext}(X:ExtOk K ext)(R:Rel K ρ h w)(I:Ids K U h){ρA:Operand->AV}(hA:∀x,(ρA x).In U){o:Oper}{n:AN}{h':AH}(he:op? K.P K.O ext h ρA o=.ok (n,h')):
  NOk K U ρ h w (execOp (fun x=>(ρA x).ev ρ) o) n h':=by
 have map2:∀(parts:Array (Nat×Operand)),(parts.map fun(i,x)=>(i,(ρA x).ev ρ))=((parts.toList.map fun(i,x)=>(i,ρA x)).map fun p=>(p.1,p.2.ev ρ)).toArray:=fun parts=>by
  apply Array.toList_inj.1
  simp[Function.comp_def]
 have in2:∀(parts:Array (Nat×Operand)),∀p∈(parts.toList.map fun(i,x)=>(i,ρA x)),p.2.In U:=fun parts p hp=>by
  obtain⟨q,_,rfl⟩:=List.mem_map.1 hp;exact hA _
 have inm:∀(l:List Operand),AV.Ins U (l.map ρA):=fun l=>Ins_iff.2 fun a ha=>by obtain⟨x,_,rfl⟩:=List.mem_map.1 ha;exact hA x
 have inval:∀{v:AV},v.In U->(AN.value v).In (plus U h.nb h.nb):=fun hv=>AV.In.mono plus_sub _ hv
 unfold op? at he
 unfold execOp
 split at he
 ·rename_i x ho
  cases he
  simp only[ho]
  exact⟨inval (hA x),Grows.refl I,fun hq _=>hq _ _ (After.same R rfl)⟩
 ·rename_i x ho
  cases he
  simp only[ho]
  exact⟨inval (hA x),Grows.refl I,fun hq _=>hq _ _ (After.same R rfl)⟩
 ·rename_i c a b ho
  simp only[ho]
  split at he
  ·rename_i t ht
   split at he
   ·rename_i t' ht'
    cases he
    have hb:=bool_lit R ht'
    refine⟨inval (by split;exact hA a;exact hA b),Grows.refl I,fun hq _=>?_⟩
    simp only[ht,AV.ev,asBool,wq_bind,wq_pure,hb]
    exact hq _ _ (After.same R (by cases t'<;>rfl))
   ·cases he
  ·cases he
 ·rename_i elem ho
  simp only[ho]
  split at he
  ·rename_i z hz
   split at he
   ·rename_i cs hc
    obtain⟨v,hv,rfl⟩:=allocOp_ok he
    exact(alloc_ok R I hz hc hv).next
   ·cases he
  ·cases he
 ·rename_i elem x ho
  simp only[ho]
  split at he
  ·rename_i cs hc
   obtain⟨v,hv,rfl⟩:=allocOp_ok he
   exact(box_ok R I (hA x) hc hv).next
  ·cases he
 ·rename_i t parts ho
  simp only[ho]
  obtain⟨v,hv,rfl,rfl⟩:=valOp_ok he
  rw[map2]
  exact NOk.pure R I (build?_in hv (in2 parts)) fun{E Q} hq=>wq_build hv hq
 ·rename_i t len parts ho
  simp only[ho]
  obtain⟨v,hv,rfl⟩:=allocOp_ok he
  rw[map2]
  exact(buildSlice_ok R I (in2 parts) hv).next
 ·rename_i t a ho
  simp only[ho]
  split at he
  ·rename_i a' ha
   obtain⟨v,hv,rfl,rfl⟩:=valOp_ok he
   refine NOk.pure R I (loadVar?_in I hv) fun{E Q} hq=>?_
   rw[sureAddr?_ok ha]
   simp only[Instr.loadAt,AV.ev,Option.map_some,Instr.sureAddr,wq_bind,wq_pure]
   exact wq_loadVar R G hv hq
  ·cases he
 ·rename_i t a x ho
  simp only[ho]
  split at he
  ·rename_i a' ha
   obtain⟨hv,rfl⟩:=skipOp_ok he
   obtain⟨I',hnb⟩:=storeS?_ids I hv (by have:=hA a;rw[sureAddr?_ok ha]at this;exact this) (hA x)
   refine⟨trivial,Grows.of_same I' hnb.1 hnb.2,fun hq _=>?_⟩
   rw[sureAddr?_ok ha]
   simp only[Instr.storeAt,AV.ev,Option.map_some,Instr.sureAddr,wq_bind,wq_pure]
   exact wq_storeS R G hv fun w' r1 r2=>hq _ _ ⟨ρ,Agree.refl _ _,r1,r2,rfl⟩
  ·cases he
 ·rename_i x ho
  simp only[ho]
  split at he
  ·rename_i a ha
   cases he
   have hx:=hA x
   rw[ha]at hx
   refine⟨inval hx,Grows.refl I,fun hq _=>?_⟩
   simp only[ha,AV.ev,Option.map_some,wq_pure]
   exact hq _ _ (After.same R rfl)
  ·rename_i t v ha
   cases he
   have hx:=hA x
   rw[ha]at hx
   refine⟨inval hx,Grows.refl I,fun hq _=>?_⟩
   simp only[ha,AV.ev,wq_pure]
   exact hq _ _ (After.same R rfl)
  ·rename_i f a b ha
   cases he
   have hx:=hA x
   rw[ha]at hx
   refine⟨inval hx,Grows.refl I,fun hq _=>?_⟩
   simp only[ha,AV.ev,wq_pure]
   exact hq _ _ (After.same R rfl)
  ·cases he
 ·rename_i op t x y yt ho
  simp only[ho]
  split at he
  ·rename_i hg
   obtain⟨v,hv,rfl,rfl⟩:=valOp_ok he
   refine NOk.pure R I (binOp?_in I hv (hA x) (hA y)) fun{E Q} hq=>?_
   rw[wq_bind]
   exact wq_eqGuard hg (wq_binOp R hv hq)
  ·cases he
 ·rename_i ty x ho
  simp only[ho]
  split at he
  ·rename_i b hb
   split at he
   ·rename_i c hc
    cases he
    have hx:=hA x
    rw[hb]at hx
    refine NOk.pure R I (v:=.bool (K.O.bool c)) (bool_in (notB_in hc hx)) fun{E Q} hq=>?_
    simp only[hb,AV.ev,Op.unary,wq_pure]
    simp only[AV.ev,bool_ev R,notB_ev hc]at hq
    exact hq
   ·cases he
  ·cases he
 ·rename_i ty x ho
  simp only[ho]
  split at he
  ·rename_i k e hb
   cases he
   have hx:=hA x
   rw[hb]at hx
   refine NOk.pure R I (v:=.int k (K.O.int (.op .sub k (.lit 0) e))) (int_in I ⟨trivial,hx⟩) fun{E Q} hq=>?_
   simp only[hb,AV.ev,Op.unary,Op.intArith,wq_pure]
   simp only[AV.ev,int_ev R,IE.ev,iop]at hq
   exact hq
  ·cases he
 ·rename_i src dst x ho
  simp only[ho]
  obtain⟨v,hv,rfl,rfl⟩:=valOp_ok he
  exact NOk.pure R I (convert?_in I hv (hA x)) fun{E Q} hq=>wq_convert R hv hq
 ·rename_i t x ho
  simp only[ho]
  split at he
  ·cases he
  ·rename_i D hD hni
   cases he
   refine NOk.pure R I (v:=.iface t (ρA x)) (hA x) fun{E Q} hq=>?_
   simp only[Instr.makeInterface,wq_bind,wq_underlying hni]
   cases D<;>first
    |exact absurd hni (hD _)
    |exact hq
  ·cases he
 ·rename_i fn first captured ho
  simp only[ho]
  cases he
  refine NOk.pure R I (v:=.func fn (first.toList.map ρA) (captured.toList.map ρA)) ⟨inm _,inm _⟩ fun{E Q} hq=>?_
  have e1:∀(l:Array Operand),l.map (fun x=>(ρA x).ev ρ)=(AV.evs ρ (l.toList.map ρA)).toArray:=fun l=>by
   rw[evs_map,List.map_map]
   apply Array.toList_inj.1
   simp[Function.comp_def]
  simp only[Instr.makeFunc,e1,wq_pure]
  exact hq
 ·rename_i t l c ho
  simp only[ho]
  obtain⟨v,hv,rfl⟩:=allocOp_ok he
  have:=(makeSliceS_ok G R I (normI_in I (hA c)) hv).next
  rw[normI_ev R,normI_ev R]at this
  exact this
 ·rename_i t x lo hi mx ho
  simp only[ho]
  obtain⟨v,hv,rfl,rfl⟩:=valOp_ok he
  refine NOk.pure R I (sliceOp?_in hv (hA x)) fun{E Q} hq=>?_
  have:=wq_sliceAt (K:=K) (ρ:=ρ) (w:=w) (E:=E) hv hq
  simpa only[Option.map_map,Function.comp_def,normI_ev R] using this
 ·rename_i s x f ho
  simp only[ho]
  obtain⟨v,hv,rfl,rfl⟩:=valOp_ok he
  exact NOk.pure R I (fieldAddr?_in hv (hA x)) fun{E Q} hq=>wq_fieldAt hv hq
 ·rename_i t x f ho
  simp only[ho]
  obtain⟨v,hv,rfl,rfl⟩:=valOp_ok he
  exact NOk.pure R I (field?_in hv (hA x)) fun{E Q} hq=>wq_field hv hq
 ·rename_i t x ix ho
  simp only[ho]
  obtain⟨v,hv,rfl,rfl⟩:=valOp_ok he
  exact NOk.pure R I (indexAddr?_in hv (hA x) (normI_in I (hA ix))) fun{E Q} hq=>by
   have:=wq_indexAt (E:=E) R hv hq
   rw[normI_ev R]at this
   exact this
 ·rename_i t x ix ho
  simp only[ho]
  obtain⟨v,hv,rfl,rfl⟩:=valOp_ok he
  exact NOk.pure R I (indexOp?_in hv (hA x)) fun{E Q} hq=>by
   have:=wq_index (K:=K) (ρ:=ρ) (w:=w) (E:=E) hv hq
   rw[normI_ev R]at this
   exact this
 ·rename_i x xt asserted ok ho
  simp only[ho]
  obtain⟨v,hv,rfl,rfl⟩:=valOp_ok he
  exact NOk.pure R I (typeAssert?_in hv (hA x)) fun{E Q} hq=>wq_typeAssert hv hq
 ·rename_i t ix ho
  simp only[ho]
  split at he
  ·rename_i vs hvs
   split at he
   ·rename_i v hv
    cases he
    have hx:=hA t
    rw[hvs]at hx
    refine NOk.pure R I (v:=v) (Ins_iff.1 hx _ (List.mem_of_getElem? hv)) fun{E Q} hq=>?_
    simp only[hvs,AV.ev,Instr.extract]
    have:(AV.evs ρ vs).toArray[ix]?=some (v.ev ρ):=by rw[List.getElem?_toArray,evs_get,hv];rfl
    rw[this];exact hq
   ·cases he
  ·cases he
 ·rename_i c ho
  simp only[ho]
  split at he
  ·rename_i d hd
   obtain⟨r1,r2,r3⟩:=invoke?_ok G F X R I (resolve?_in hd hA) he
   exact⟨r1,r2,fun{E Q} hq hE=>by
    simp only[wq_bind]
    exact wq_resolve (ρ:=ρ) hd (r3 hq hE)⟩
  ·cases he
 ·rename_i c ho
  simp only[ho]
  split at he
  ·rename_i d hd
   cases he
   have hin:=resolve?_in hd hA
   refine⟨⟨by have:=hin.1;revert this;cases d.target<;>first|exact fun x=>AV.Ins.mono plus_sub _ x|exact id,AV.Ins.mono plus_sub _ hin.2⟩,Grows.refl I,fun{E Q} hq hE=>?_⟩
   simp only[wq_bind]
   exact wq_resolve (ρ:=ρ) hd (hq _ _ (After.same R rfl))
  ·cases he
 ·rename_i x ho
  simp only[ho]
  split at he
  ·rename_i t v hx
   cases he
   have hi:=hA x
   rw[hx]at hi
   refine⟨inval hi,Grows.refl I,fun{E Q} hq hE=>?_⟩
   simp only[hx,AV.ev,Instr.panic,wq_bind,wq_goPanic]
   exact hE _ rfl rfl
  ·cases he
 ·rename_i t s ho
  simp only[ho]
  obtain⟨v,hv,rfl⟩:=allocOp_ok he
  exact(makeChan_ok R I hv).next
 ·rename_i t r ho
  simp only[ho]
  obtain⟨v,hv,rfl⟩:=allocOp_ok he
  have:(r.map fun x=>(ρA x).ev ρ)=(r.map ρA).map (AV.ev ρ):=by cases r<;>rfl
  rw[this]
  exact(makeMap_ok R I hv).next
 ·rename_i t x k ok ho
  simp only[ho]
  obtain⟨v,hv,rfl,rfl⟩:=valOp_ok he
  exact NOk.pure R I (lookup?_in I hv) fun{E Q} hq=>wq_lookup R G hv hq
 ·rename_i t m k x ho
  simp only[ho]
  obtain⟨hv,rfl⟩:=skipOp_ok he
  obtain⟨I',n1,n2⟩:=mapUpdate?_ids I (hA k) (hA x) hv
  refine⟨trivial,Grows.of_same I' n1 n2,fun hq _=>?_⟩
  simp only[wq_bind,wq_pure]
  exact wq_mapUpdate R G hv fun w' r1 r2=>hq _ _ ⟨ρ,Agree.refl _ _,r1,r2,rfl⟩
 ·rename_i t m k x ho
  simp only[ho]
  obtain⟨hv,rfl⟩:=skipOp_ok he
  obtain⟨I',n1,n2⟩:=mapUpdate?_ids I (hA k) (hA x) hv
  refine⟨trivial,Grows.of_same I' n1 n2,fun hq _=>?_⟩
  simp only[wq_bind,wq_pure]
  exact wq_mapUpdate R G hv fun w' r1 r2=>hq _ _ ⟨ρ,Agree.refl _ _,r1,r2,rfl⟩
 ·cases he
end
end Go.Proofs.Ytmobbajggkjpgaa.SX
namespace Go.Proofs.Ytmobbajggkjpgaa.SX
open Go.Conc
def drawnAt(w:World)(d:Nat):World:={w with drawn:=d}
inductive WalkI(P:Program)(main:Bool)(D:World->World->Array Event->Prop)(S:Goroutine->World->Prop):Nat->Goroutine->World->Prop where
 |stop (g:Goroutine) (w:World):S g w->WalkI P main D S 0 g w
 |step (n:Nat) (g:Goroutine) (w:World) (g':Nat->Goroutine) (w':Nat->World) (es:Nat->Array Event):g.status=.running->(∀d,stepG P main g (drawnAt w d)=.go (g' d) (w' d) (es d))->
  (∀d,D (drawnAt w d) (w' d) (es d))->(∀d,WalkI P main D S n (g' d) (w' d))->WalkI P main D S n g w
 |off (n:Nat) (g:Goroutine) (w:World) (g':Goroutine):g.status=.running->(∀d,stepG P main g (drawnAt w d)=.go g' (drawnAt w d) #[⟨.mark .disable,false,true⟩])->
  (∀d,WalkI P main D S (n+1) g' (drawnAt w d))->WalkI P main D S n g w
 |on (n:Nat) (g:Goroutine) (w:World) (g':Goroutine):g.status=.running->(∀d,stepG P main g (drawnAt w d)=.go g' (drawnAt w d) #[⟨.mark .enable,false,true⟩])->
  (∀d,WalkI P main D S n g' (drawnAt w d))->WalkI P main D S (n+1) g w
def Walk(P:Program)(main:Bool)(D:World->World->Array Event->Prop)(S:Goroutine->World->Prop)(_:Nat)(g:Goroutine)(w:World):Prop:=WalkI P main D S 0 g w
section
variable {P:Program}{main:Bool}{D:World->World->Array Event->Prop}{S T:Goroutine->World->Prop}
theorem Walk.stop{n:Nat}{g:Goroutine}{w:World}(h:S g w):Walk P main D S n g w:=WalkI.stop g w h
theorem goes_mono{s:GStep}{K K':Goroutine->World->Array Event->Prop}(h:s.goes K)(hk:∀g w es,K g w es->K' g w es):s.goes K':=by
 cases s<;>first|exact hk _ _ _ h|exact h
theorem goes_ex{s:GStep}{K:Goroutine->World->Array Event->Prop}(h:s.goes K):∃g w es,s=.go g w es∧K g w es:=by
 cases s with
 |go g w es=>exact⟨g,w,es,rfl,h⟩
 |_=>exact h.elim
theorem Walk.mono{n m:Nat}{g:Goroutine}{w:World}(_:n≤m)(h:Walk P main D S n g w):Walk P main D S m g w:=h
theorem Walk.any{n m:Nat}{g:Goroutine}{w:World}(h:Walk P main D S n g w):Walk P main D S m g w:=h
theorem WalkI.trans(hST:∀g w,S g w->WalkI P main D T 0 g w){n:Nat}{g:Goroutine}{w:World}(h:WalkI P main D S n g w):WalkI P main D T n g w:=by
 induction h with
 |stop g w hs=>exact hST g w hs
 |step n g w g' w' es hr hs hd _ ih=>exact WalkI.step n g w g' w' es hr hs hd fun d=>ih d
 |off n g w g' hr hs _ ih=>exact WalkI.off n g w g' hr hs fun d=>ih d
 |on n g w g' hr hs _ ih=>exact WalkI.on n g w g' hr hs fun d=>ih d
theorem Walk.trans{n m:Nat}(hST:∀g w,S g w->Walk P main D T m g w){g:Goroutine}{w:World}(h:Walk P main D S n g w):Walk P main D T (n+m) g w:=WalkI.trans hST h
theorem Walk.weaken{n:Nat}(hST:∀g w,S g w->T g w){g:Goroutine}{w:World}(h:Walk P main D S n g w):Walk P main D T n g w:=
 (Walk.trans (m:=0) (fun g w hs=>Walk.stop (hST g w hs)) h).any
theorem Walk.head{n m:Nat}{g:Goroutine}{w:World}(hs:g.status=.running)(h:∀d,(stepG P main g (drawnAt w d)).goes fun g' w' es=>D (drawnAt w d) w' es∧Walk P main D S n g' w'):Walk P main D S m g w:=by
 have h':∀d,∃g' w' es,stepG P main g (drawnAt w d)=.go g' w' es∧D (drawnAt w d) w' es∧Walk P main D S n g' w':=fun d=>goes_ex (h d)
 exact WalkI.step 0 g w (fun d=>(h' d).choose) (fun d=>(h' d).choose_spec.choose) (fun d=>(h' d).choose_spec.choose_spec.choose) hs (fun d=>(h' d).choose_spec.choose_spec.choose_spec.1)
  (fun d=>(h' d).choose_spec.choose_spec.choose_spec.2.1) (fun d=>(h' d).choose_spec.choose_spec.choose_spec.2.2)
theorem Walk.one{g:Goroutine}{w:World}(hs:g.status=.running)(h:∀d,(stepG P main g (drawnAt w d)).goes fun g' w' es=>D (drawnAt w d) w' es∧S g' w'):Walk P main D S 1 g w:=
 Walk.head (n:=0) hs fun d=>goes_mono (h d) fun g' w' es ⟨a,b⟩=>⟨a,Walk.stop b⟩
theorem Walk.lax{D':World->World->Array Event->Prop}{n:Nat}(hd:∀w w' es,D w w' es->D' w w' es){g:Goroutine}{w:World}(h:Walk P main D S n g w):Walk P main D' S n g w:=by
 change WalkI P main D S 0 g w at h
 show WalkI P main D' S 0 g w
 generalize(0:Nat)=k at h⊢
 induction h with
 |stop g w hs=>exact WalkI.stop g w hs
 |step n g w g' w' es hr hs hdd _ ih=>exact WalkI.step n g w g' w' es hr hs (fun d=>hd _ _ _ (hdd d)) fun d=>ih d
 |off n g w g' hr hs _ ih=>exact WalkI.off n g w g' hr hs fun d=>ih d
 |on n g w g' hr hs _ ih=>exact WalkI.on n g w g' hr hs fun d=>ih d
end
def Stays(S:Nat->Nat->Prop)(w w':World):Prop:=∀b n v,S b n->w.cell? ⟨b,n,none⟩=some v->w'.cell? ⟨b,n,none⟩=some v
theorem wq_keep{α:Type}{P:Program}{Ev:Event->Prop}{E:Value->World->Prop}{S:Nat->Nat->Prop}(hE:∀b n s,S b n->¬Ev ⟨.cell ⟨b,n,none⟩,true,s⟩)(m:Sem α):∀{Q:α->World->Prop} {w:World},wq P Ev E m Q w->
  wq P Ev E m (fun x w'=>Q x w'∧Stays S w w') w:=by
 have pre:∀{w w1:World},Stays S w w1->∀{m:Sem α} {Q:α->World->Prop},wq P Ev E m (fun x w'=>Q x w'∧Stays S w1 w') w1->wq P Ev E m (fun x w'=>Q x w'∧Stays S w w') w1:=by
  intro w w1 hs m Q h
  exact wq_mono (fun _ _ x=>x) (fun x w' ⟨a,b⟩=>⟨a,fun b' n v x y=>b b' n v x (hs b' n v x y)⟩) h
 induction m with
 |pure a=>intro Q w h;exact⟨h,fun _ _ _ _ x=>x⟩
 |load m a k ih=>intro Q w h;obtain⟨v,h1,h2,h3⟩:=h;exact⟨v,h1,h2,ih v h3⟩
 |store m a v k ih=>
  intro Q w h
  obtain⟨h1,h2,h3,h4,h5⟩:=h
  refine⟨h1,h2,h3,h4,pre ?_ (ih h5)⟩
  intro b n u hs hc
  simp only[World.cell?]at hc⊢
  rw[heap_setCell]
  by_cases e:b=a.block
  ·rw[if_pos e]
   cases ho:w.heap[b]? with
   |none=>rw[ho]at hc;cases hc
   |some o=>
    rw[ho]at hc
    cases o with
    |cells c elem fr=>
     simp only[Option.map_some]
     simp only[Option.isSome_none,Bool.false_eq_true,if_false]at hc⊢
     by_cases hsp:a.spot.isSome=true
     ·rw[if_pos hsp];exact hc
     ·rw[if_neg hsp]
      by_cases en:a.off=n
      ·exfalso
       have:a=⟨b,n,none⟩:=by
        obtain⟨ab,ao,asp⟩:=a
        simp only[Option.not_isSome_iff_eq_none]at hsp
        simp_all
       exact hE b n _ hs (this▸h4)
      ·rw[Array.getElem?_setIfInBounds_ne en];exact hc
    |_=>cases hc
  ·rw[if_neg e];exact hc
 |new o k ih=>
  intro Q w h
  refine(pre ?_ (ih _ h):wq P Ev E (k w.heap.size) _ _)
  intro b n u hs hc
  simp only[World.cell?]at hc⊢
  have hlt:b<w.heap.size:=by
   rcases Nat.lt_or_ge b w.heap.size with h'|h'
   ·exact h'
   ·rw[Array.getElem?_eq_none h']at hc;cases hc
  rw[Array.getElem?_push_lt hlt]
  rw[Array.getElem?_eq_getElem hlt]at hc
  exact hc
 |shape r k ih=>intro Q w h;exact ih _ h
 |freeze a n k ih=>intro Q w h;exact h.elim
 |frozen a k ih=>intro Q w h;exact ih _ h
 |getObj r k ih=>intro Q w h;obtain⟨o,h1,h2,h3,h4⟩:=h;exact⟨o,h1,h2,h3,ih o h4⟩
 |setObj r o k ih=>
  intro Q w h
  obtain⟨⟨o',h1,h2⟩,h3,h4⟩:=h
  refine⟨⟨o',h1,h2⟩,h3,pre ?_ (ih h4)⟩
  intro b n u hs hc
  simp only[World.cell?]at hc⊢
  by_cases e:r=b
  ·subst e
   rw[h1]at hc
   cases o' with
   |cells c el fr=>exact absurd rfl (h2 _ _ _)
   |_=>cases hc
  ·rw[Array.getElem?_setIfInBounds_ne e];exact hc
 |choose q k ih=>
  intro Q w h
  simp only[wq]at h⊢
  split
  ·rename_i hf;rw[if_pos hf]at h;exact ih 0 h
  ·rename_i hf;rw[if_neg hf]at h;exact fun n=>pre (fun _ _ _ _ x=>x) (ih _ (h n))
 |sys c k ih=>intro Q w h;exact h.elim
 |program k ih=>intro Q w h;exact ih P h
 |mark m k ih=>intro Q w h;exact⟨h.1,ih h.2⟩
 |halt x=>intro Q w h;cases x<;>exact h
def DK(K:Ctx)(w w':World)(es:Array Event):Prop:=Keeps K.own w w'∧(∀e∈es,K.Ev e)∧Stays K.still w w'
structure TmpR(ρ:Env)(nt:Nat)(t:TT)(tmps:Array Value):Prop where
 size:tmps.size=nt
 le:nt≤60000
 get:∀n,n<nt->tmps[n]?=some ((t.get n).ev ρ)
 out:∀n,nt≤n->t.get n=undefA
def AMode.ev(ρ:Env):AMode->FrameMode
 |.run=>.run
 |.returning=>.returning
 |.panicking chain=>.panicking (chain.map fun x=>{v:=x.1.ev ρ,recovered:=x.2})
def mkF(fn:FuncId)(kind:CallKind):Frame:={(default:Frame)with fn:=fn,kind:=kind}
def bB(ρ:Env)(fn:FuncId)(kind:CallKind):Frame:=
 match kind with
 |.wrapped=>{mkF fn .normal with roundOf:=ρ.bt.1}
 |k=>mkF fn k
def dB(ρ:Env)(kind:CallKind)(ds:List Deferred):List Deferred:=
 match kind with
 |.wrapped=>ds++ρ.bt.2
 |_=>ds
def aB(ρ:Env)(kind:CallKind)(tm:Array Value)(ds:List AD):Act:=⟨tm,dB ρ kind (ds.map (AD.ev ρ))⟩
def plainK(k:CallKind):Prop:=k=.normal∨k=.deferred
theorem plain_of{k:CallKind}(h:plainK k∨k=.wrapped)(ht:tagged k=false):plainK k:=by
 rcases h with h|rfl
 ·exact h
 ·cases ht
theorem plain_bB{k:CallKind}(h:plainK k)(ρ:Env)(fn:FuncId):bB ρ fn k=mkF fn k:=by rcases h with rfl|rfl<;>rfl
theorem plain_dB{k:CallKind}(h:plainK k)(ρ:Env)(ds:List Deferred):dB ρ k ds=ds:=by rcases h with rfl|rfl<;>rfl
theorem plain_aB{k:CallKind}(h:plainK k)(ρ:Env)(tm:Array Value)(ds:List AD):aB ρ k tm ds=⟨tm,ds.map (AD.ev ρ)⟩:=by unfold aB;rw[plain_dB h]
theorem plain_at{k:CallKind}(h:plainK k)(ρ:Env)(fn:FuncId)(tm:Array Value)(ds:List AD)(todo:List Item):(bB ρ fn k).atR (aB ρ k tm ds) todo=(mkF fn k).at ⟨tm,ds.map (AD.ev ρ)⟩ todo:=by
 rw[plain_bB h,plain_aB h];rfl
theorem plain_round{k:CallKind}(h:plainK k)(ρ:Env)(fn:FuncId):(bB ρ fn k).roundOf=none:=by rw[plain_bB h];rfl
theorem bB_kind{k:CallKind}(h:plainK k∨k=.wrapped)(ρ:Env)(fn:FuncId):(bB ρ fn k).kind≠.early:=by
 rcases h with(rfl|rfl)|rfl<;>simp[bB,mkF]
theorem bB_fn(ρ:Env)(fn:FuncId)(k:CallKind):(bB ρ fn k).fn=fn:=by cases k<;>rfl
theorem dB_cons(ρ:Env)(k:CallKind)(d:Deferred)(ds:List Deferred):dB ρ k (d::ds)=d::dB ρ k ds:=by cases k<;>rfl
def frameOf(ρ:Env)(fr:AFrame)(tmps:Array Value)(todo:List Item):Frame:={(bB ρ fr.fn fr.kind).atR (aB ρ fr.kind tmps fr.defers) todo with mode:=fr.mode.ev ρ}
structure FrIs(P:Program)(ρ:Env)(fr:AFrame)(tmps:Array Value)(todo:List Item):Prop where
 tmps:TmpR ρ fr.nt fr.tmps tmps
 kind:plainK fr.kind∨fr.kind=.wrapped
 todo:fr.mode=.run->todo=fr.todo
 fn:∃fn,P.funcs[fr.fn]?=some fn
def FrRel(P:Program)(ρ:Env)(fr:AFrame)(g:Frame):Prop:=∃tmps todo,FrIs P ρ fr tmps todo∧g=frameOf ρ fr tmps todo
def FrRels(P:Program)(ρ:Env):List AFrame->List Frame->Prop
 |[],[]=>True
 |a::l,b::m=>FrRel P ρ a b∧FrRels P ρ l m
 |_,_=>False
def Gam(K:Ctx)(ρ:Env)(c:ACfg)(cs:List Frame)(g:Goroutine)(w:World):Prop:=
 Rel K ρ c.h w∧∃fr frs,FrRel K.P ρ c.cur fr∧FrRels K.P ρ c.callers frs∧g=G fr (frs++cs)
def AMode.In(U:Nat->Prop):AMode->Prop
 |.panicking chain=>∀x∈chain,x.1.In U
 |_=>True
structure AFrame.In(U:Nat->Prop)(fr:AFrame):Prop where
 tmps:fr.tmps.In U
 defers:∀d∈fr.defers,d.In U
 mode:fr.mode.In U
structure CIds(K:Ctx)(U:Nat->Prop)(c:ACfg):Prop where
 cur:c.cur.In U
 callers:∀fr∈c.callers,fr.In U
 ids:Ids K U c.h
theorem ATarget.In.mono{U U':Nat->Prop}(hs:∀n,U n->U' n){t:ATarget}(h:t.In U):t.In U':=by
 cases t with
 |fn f c=>exact AV.Ins.mono hs _ h
 |builtin b a t c=>trivial
theorem AD.In.mono{U U':Nat->Prop}(hs:∀n,U n->U' n){d:AD}(h:d.In U):d.In U':=⟨ATarget.In.mono hs h.1,AV.Ins.mono hs _ h.2⟩
theorem AMode.In.mono{U U':Nat->Prop}(hs:∀n,U n->U' n){m:AMode}(h:m.In U):m.In U':=by
 cases m with
 |panicking chain=>exact fun x hx=>AV.In.mono hs _ (h x hx)
 |_=>trivial
theorem AFrame.In.mono{U U':Nat->Prop}(hs:∀n,U n->U' n){fr:AFrame}(h:fr.In U):fr.In U':=
 ⟨TT.In.mono hs h.tmps,fun d hd=>AD.In.mono hs (h.defers d hd),AMode.In.mono hs h.mode⟩
section
variable {U:Nat->Prop}{ρ ρ':Env}
theorem AD.ev_agree(A:Agree U ρ ρ'){d:AD}(h:d.In U):d.ev ρ'=d.ev ρ:=by
 obtain⟨t,a⟩:=d
 simp only[AD.ev]
 rw[AV.evs_agree A _ h.2]
 cases t with
 |fn f c=>simp only[ATarget.ev];rw[AV.evs_agree A _ h.1]
 |builtin b a t c=>rfl
theorem AMode.ev_agree(A:Agree U ρ ρ'){m:AMode}(h:m.In U):m.ev ρ'=m.ev ρ:=by
 cases m with
 |panicking chain=>
  simp only[AMode.ev]
  congr 1
  exact List.map_congr_left fun x hx=>by rw[AV.ev_agree A _ (h x hx)]
 |_=>rfl
theorem bB_agree(A:Agree U ρ ρ')(fn:FuncId)(k:CallKind):bB ρ' fn k=bB ρ fn k:=by
 unfold bB;rw[A.bt]
theorem aB_agree(A:Agree U ρ ρ')(k:CallKind)(tm:Array Value){ds:List AD}(h:∀d∈ds,d.In U):aB ρ' k tm ds=aB ρ k tm ds:=by
 have:ds.map (AD.ev ρ')=ds.map (AD.ev ρ):=List.map_congr_left fun d hd=>AD.ev_agree A (h d hd)
 unfold aB dB
 rw[this,A.bt]
theorem TmpR.agree(A:Agree U ρ ρ'){nt:Nat}{t:TT}{tmps:Array Value}(h:TmpR ρ nt t tmps)(hi:t.In U):TmpR ρ' nt t tmps:=
 ⟨h.size,h.le,fun n hn=>by rw[h.get n hn,AV.ev_agree A _ (hi n)],h.out⟩
theorem frameOf_agree(A:Agree U ρ ρ'){fr:AFrame}(hi:fr.In U)(tmps:Array Value)(todo:List Item):frameOf ρ' fr tmps todo=frameOf ρ fr tmps todo:=by
 unfold frameOf
 rw[AMode.ev_agree A hi.mode,aB_agree A fr.kind tmps hi.defers,bB_agree A]
theorem FrRel.agree{P:Program}(A:Agree U ρ ρ'){fr:AFrame}{g:Frame}(h:FrRel P ρ fr g)(hi:fr.In U):FrRel P ρ' fr g:=by
 obtain⟨tmps,todo,h1,h3⟩:=h
 exact⟨tmps,todo,⟨h1.tmps.agree A hi.tmps,h1.kind,h1.todo,h1.fn⟩,by rw[h3,frameOf_agree A hi]⟩
theorem callers_agree{P:Program}(A:Agree U ρ ρ'):∀{l:List AFrame} {frs:List Frame},FrRels P ρ l frs->(∀fr∈l,fr.In U)->FrRels P ρ' l frs
 |[],[],_,_=>trivial
 |_::_,_::_,h,hi=>⟨h.1.agree A (hi _ (by simp)),callers_agree A h.2 fun fr hf=>hi fr (List.mem_cons_of_mem _ hf)⟩
end
section
variable {ρ:Env}{nt:Nat}{t:TT}{tmps:Array Value}{U:Nat->Prop}
theorem TmpR.getD(h:TmpR ρ nt t tmps)(n:Nat):tmps.getD n undef=(t.get n).ev ρ:=by
 rw[Array.getD_eq_getD_getElem?]
 rcases Nat.lt_or_ge n nt with hn|hn
 ·rw[h.get n hn];rfl
 ·rw[h.out n hn,Array.getElem?_eq_none (by rw[h.size];exact hn)];rfl
theorem evalA_ev(h:TmpR ρ nt t tmps)(ds:List Deferred)(x:Operand):Act.eval ⟨tmps,ds⟩ x=(evalA t x).ev ρ:=by
 cases x with
 |tmp n=>exact h.getD n
 |const v=>exact(ofValue_ev ρ v).symm
 |global g=>rfl
 |func f=>rfl
theorem evalA_in(h:t.In U)(x:Operand):(evalA t x).In U:=by
 cases x with
 |tmp n=>exact h n
 |const v=>exact ofValue_in v
 |global g=>exact⟨trivial,trivial⟩
 |func f=>exact⟨trivial,trivial⟩
theorem put_tmps(h:TmpR ρ nt t tmps)(ds:List Deferred)(dst:Option Tmp)(v:AV):∃tmps',(Act.put ⟨tmps,ds⟩ dst (v.ev ρ))=⟨tmps',ds⟩∧TmpR ρ nt (putA nt t dst v) tmps':=by
 cases dst with
 |none=>exact⟨tmps,rfl,h⟩
 |some d=>
  refine⟨tmps.setIfInBounds d (v.ev ρ),rfl,?_⟩
  unfold putA
  dsimp only
  cases hb:Nat.ble (d+1) nt with
  |true=>
   have hd:Nat.succ d≤nt:=Nat.le_of_ble_eq_true hb
   have hb16:Nat.succ d<2 ^ 16:=Nat.lt_of_le_of_lt (Nat.le_trans hd h.le) (by decide)
   refine⟨by simpa using h.size,h.le,fun n hn=>?_,fun n hn=>?_⟩
   ·dsimp only at hn⊢
    rw[TT.get_set v 16 t d n hb16]
    by_cases e:n=d
    ·subst e;rw[if_pos rfl];simp[h.size,hn]
    ·rw[if_neg e,Array.getElem?_setIfInBounds_ne (fun x=>e x.symm)];exact h.get n hn
   ·dsimp only
    rw[TT.get_set v 16 t d n hb16,if_neg (show ¬n=d from fun e=>by subst e;exact Nat.lt_irrefl _ (Nat.lt_of_lt_of_le hd hn))];exact h.out n hn
  |false=>
   have hd:nt≤d:=Nat.le_of_not_lt fun hlt=>by
    have:=Nat.ble_eq_true_of_le hlt
    have h2:Nat.ble (d+1) nt=true:=this
    rw[h2]at hb;cases hb
   have:tmps.setIfInBounds d (v.ev ρ)=tmps:=Array.setIfInBounds_eq_of_size_le (by rw[h.size];exact hd)
   rw[this];exact h
theorem putA_in{dst:Option Tmp}{v:AV}(h:t.In U)(hv:v.In U)(hnt:nt≤60000):(putA nt t dst v).In U:=by
 cases dst with
 |none=>exact h
 |some d=>
  unfold putA
  dsimp only
  cases hb:Nat.ble (d+1) nt with
  |true=>
   have hd:Nat.succ d≤nt:=Nat.le_of_ble_eq_true hb
   have hb16:Nat.succ d<2 ^ 16:=Nat.lt_of_le_of_lt (Nat.le_trans hd hnt) (by decide)
   intro n
   dsimp only
   rw[TT.get_set v 16 t d n hb16]
   split
   ·exact hv
   ·exact h n
  |false=>exact h
theorem wantedA_ok{K:Ctx}{h:AH}{w:World}(R:Rel K ρ h w)(T:TmpR ρ nt t tmps){ops:Array Oper}{o:Oper}{b:Bool}(he:wantedA K.O ops t o=.ok b):Region.wanted o (yielded ops tmps)=b:=by
 unfold wantedA at he
 unfold Region.wanted
 split at he
 ·rename_i hg;rw[hg];cases he;rfl
 ·rename_i j want hg
  rw[hg]
  split at he
  ·rename_i y hy
   cases he
   have:yielded ops tmps j=y:=by
    unfold yieldedA at hy
    unfold yielded
    split at hy
    ·cases hy
    ·rename_i d hd
     rw[hd]
     simp only[Option.bind_some]
     rcases Nat.lt_or_ge d nt with hlt|hge
     ·rw[T.get d hlt]
      split at hy
      ·rename_i b' hb'
       split at hy
       ·rename_i b2 hb2
        cases hy
        rw[hb']
        simp only[AV.ev,bool_lit R hb2]
       ·cases hy
      ·rename_i vs hvs
       cases hy
       rw[hvs];rfl
      ·cases hy
     ·rw[Array.getElem?_eq_none (by rw[T.size];exact hge)]
      rw[T.out d hge]at hy
      simp only[undefA]at hy
      cases hy;rfl
   show(yielded ops tmps j==some want)=_
   rw[this]
  ·cases he
theorem fill_in:∀{l:List AV} {n:Nat} {t:TT},n+l.length≤60000->AV.Ins U l->t.In U->(TT.fill l n t).In U:=by
 intro l n t hle hl ht m
 rw[TT.get_fill l n t m hle]
 split
 ·rename_i hm
  have:m-n<l.length:=by omega
  rw[List.getD_eq_getElem?_getD,List.getElem?_eq_getElem this]
  exact Ins_iff.1 hl _ (List.getElem_mem this)
 ·exact ht m
end
theorem enterA_ok{P:Program}{ρ:Env}{U:Nat->Prop}{f:FuncId}{args:List AV}{kind:CallKind}{fr:AFrame}(he:enterA P f args kind=.ok fr)(hk:kind=.normal∨kind=.deferred)(ha:AV.Ins U args):
  FrRel P ρ fr (Frame.enter P f (AV.evs ρ args).toArray kind)∧fr.In U∧fr.kind=kind∧fr.fn=f∧∃fn,P.funcs[f]?=some fn:=by
 unfold enterA at he
 split at he
 ·rename_i fn hf
  split at he
  ·rename_i c hc
   split at he
   ·rename_i hlen
    cases he
    refine⟨⟨(AV.evs ρ args).toArray++Array.replicate (fn.ntmps-args.length) undef,[.code c],⟨?_,.inl hk,fun _=>rfl,fn,hf⟩,?_⟩,⟨?_,by simp,trivial⟩,rfl,rfl,fn,hf⟩
    ·have hl:(AV.evs ρ args).length=args.length:=evs_length ρ args
     refine⟨by simp[hl];omega,hlen.2,fun n hn=>?_,fun n hn=>?_⟩
     ·dsimp only at hn⊢
      rw[TT.get_fill args 0 .leaf n (by omega)]
      by_cases hlt:n<args.length
      ·rw[if_pos ⟨Nat.zero_le _,by omega⟩,Array.getElem?_append_left (by simp[hl];exact hlt)]
       rw[List.getElem?_toArray,evs_get]
       simp[List.getD_eq_getElem?_getD,List.getElem?_eq_getElem hlt]
      ·rw[if_neg (by omega),Array.getElem?_append_right (by simp[hl];omega)]
       rw[Array.getElem?_replicate,if_pos (by simp[hl];omega)]
       rfl
     ·dsimp only at hn⊢
      rw[TT.get_fill args 0 .leaf n (by omega),if_neg (by omega)]
      rfl
    ·unfold frameOf Frame.enter
     dsimp only
     rw[plain_at hk]
     simp[mkF,Frame.at,AMode.ev,hf,hc,evs_length]
    ·exact fill_in (by omega) ha (fun _=>trivial)
   ·cases he
  ·cases he
 ·cases he
section
variable {P:Program}{main:Bool}{b:Frame}{a:Act}{k:List Item}{cs:List Frame}{w:World}
theorem stR_skip:stepG P main (G (b.atR a (.code .skip::k)) cs) w=.go (G (b.atR a k) cs) w:=by simp[G,stepG,stepG.exec,Frame.atR]
theorem stR_label{l:Nat}:stepG P main (G (b.atR a (.code (.label l)::k)) cs) w=.go (G (b.atR a k) cs) w:=by simp[G,stepG,stepG.exec,Frame.atR]
theorem stR_inBlock{id:Nat}:stepG P main (G (b.atR a (.inBlock id::k)) cs) w=.go (G (b.atR a k) cs) w:=by simp[G,stepG,stepG.exec,Frame.atR]
theorem stR_inScope{c:Code}:stepG P main (G (b.atR a (.inScope c::k)) cs) w=.go (G (b.atR a k) cs) w:=by simp[G,stepG,stepG.exec,Frame.atR]
theorem stR_seq{x y:Code}:stepG P main (G (b.atR a (.code (.seq x y)::k)) cs) w=.go (G (b.atR a (.code x::.code y::k)) cs) w:=by simp[G,stepG,stepG.exec,Frame.atR]
theorem stR_cond{c:Operand}{x y:Code}{t:Bool}(h:a.eval c=.bool t):stepG P main (G (b.atR a (.code (.cond c x y)::k)) cs) w=.go (G (b.atR a (.code (if t then x else y)::k)) cs) w:=by
 have h':(b.atR a (.code (.cond c x y)::k)).eval c=.bool t:=by rw[Frame.eval_atR];exact h
 simp only[Frame.atR]at h'
 simp[G,stepG,stepG.exec,Frame.atR,h']
theorem stR_block{id:Nat}{c:Code}:stepG P main (G (b.atR a (.code (.block id c)::k)) cs) w=.go (G (b.atR a (.code c::.inBlock id::k)) cs) w:=by simp[G,stepG,stepG.exec,Frame.atR]
theorem stR_loop{c:Code}:stepG P main (G (b.atR a (.code (.loop c)::k)) cs) w=.go (G (b.atR a (.code c::.inLoop c::k)) cs) w:=by simp[G,stepG,stepG.exec,Frame.atR]
theorem stR_inLoop{c:Code}:stepG P main (G (b.atR a (.inLoop c::k)) cs) w=.go (G (b.atR a (.code c::.inLoop c::k)) cs) w:=by simp[G,stepG,stepG.exec,Frame.atR]
theorem stR_scope{c:Code}:stepG P main (G (b.atR a (.code (.scope c)::k)) cs) w=.go (G (b.atR a (.code c::.inScope c::k)) cs) w:=by simp[G,stepG,stepG.exec,Frame.atR]
theorem stR_exit{id:Nat}{k':List Item}(h:exitTo id k=some k'):stepG P main (G (b.atR a (.code (.exit id)::k)) cs) w=.go (G (b.atR a k') cs) w:=by simp[G,stepG,stepG.exec,Frame.atR,h]
theorem stR_goto{l:Nat}{k':List Item}(h:gotoIn l k=some k'):stepG P main (G (b.atR a (.code (.goto l)::k)) cs) w=.go (G (b.atR a k') cs) w:=by simp[G,stepG,stepG.exec,Frame.atR,h]
theorem stR_region{id:Nat}{ops:Array Oper}:stepG P main (G (b.atR a (.code (.region id ops false)::k)) cs) w=.go (G (b.atR a (.inRegion ops (List.range ops.size)::k)) cs) w:=by simp[G,stepG,stepG.exec,Frame.atR]
theorem stR_region_end{ops:Array Oper}:stepG P main (G (b.atR a (.inRegion ops []::k)) cs) w=.go (G (b.atR a k) cs) w:=by simp[G,stepG,stepG.exec,Frame.atR]
theorem stR_end(hb:b.roundOf=none):stepG P main (G (b.atR a []) cs) w=.go (G {b.atR a []with mode:=.returning} cs) w:=by simp[G,stepG,stepG.exec,Frame.atR,hb]
theorem stR_ret(hb:b.roundOf=none):stepG P main (G (b.atR a (.code .ret::k)) cs) w=.go (G {b.atR a (.code .ret::k)with mode:=.returning} cs) w:=by simp[G,stepG,stepG.exec,Frame.atR,hb]
theorem finR(b:Frame)(a:Act){ops:Array Oper}{i:Nat}{rest:List Nat}{k:List Item}{o:Oper}(ho:ops[i]?=some o)(v:Value):(b.atR a (.inRegion ops (i::rest)::k)).finish v=b.atR (a.put o.dst v) (.inRegion ops rest::k):=by
 rw[Frame.finish_atR,ho];rfl
variable {ops:Array Oper}{i:Nat}{rest:List Nat}{o:Oper}{w':World}
theorem stR_unwanted(ho:ops[i]?=some o)(hw:Region.wanted o (yielded ops a.tmps)=false):
  stepG P main (G (b.atR a (.inRegion ops (i::rest)::k)) cs) w=.go (G (b.atR (a.put o.dst undef) (.inRegion ops rest::k)) cs) w #[]:=by
 rw[<-finR b a ho]
 simp[G,stepG,stepG.exec,Frame.atR,ho,hw]
def FreeOp(b:Frame)(o:Oper):Prop:=b.roundOf=none∨∀c,o.op≠.defer c
theorem stR_oper(hf:FreeOp b o)(ho:ops[i]?=some o)(hw:Region.wanted o (yielded ops a.tmps)=true):
  stepG P main (G (b.atR a (.inRegion ops (i::rest)::k)) cs) w=stepG.apply P true (b.atR a (.inRegion ops (i::rest)::k)) cs none (execOp a.eval o) w:=by
 have he:=Frame.eval_atR b a (.inRegion ops (i::rest)::k)
 have h1:stepG P main (G (b.atR a (.inRegion ops (i::rest)::k)) cs) w=stepG.oper P true (b.atR a (.inRegion ops (i::rest)::k)) cs none w:=by
  simp[G,stepG,stepG.exec,Frame.atR,ho,hw]
 rw[h1]
 have h2:(b.atR a (.inRegion ops (i::rest)::k)).oper?=some o:=by simp[Frame.oper?,Frame.atR,ho]
 have h3:(b.atR a (.inRegion ops (i::rest)::k)).roundOf=b.roundOf:=rfl
 unfold stepG.oper
 rw[h2]
 dsimp only
 rw[h3,he]
 rcases hf with h|h
 ·rw[h]
 ·split
  ·rename_i l c _ hc;exact absurd hc (h c)
  ·rfl
theorem stR_value{v:Value}(hf:FreeOp b o)(ho:ops[i]?=some o)(hw:Region.wanted o (yielded ops a.tmps)=true)(hk:b.kind≠.early)(hr:(execOp a.eval o).run P w=.ok (.value v) w'):
  stepG P main (G (b.atR a (.inRegion ops (i::rest)::k)) cs) w=.go (G (b.atR (a.put o.dst v) (.inRegion ops rest::k)) cs) w' (listed P b.fn a o w):=by
 have hk':(b.kind==CallKind.early)=false:=by simpa using hk
 rw[stR_oper hf ho hw,<-finR b a ho]
 simp[stepG.apply,hr,G,Frame.atR,hk',GStep.after,listed]
theorem stR_none(hf:FreeOp b o)(ho:ops[i]?=some o)(hw:Region.wanted o (yielded ops a.tmps)=true)(hk:b.kind≠.early)(hr:(execOp a.eval o).run P w=.ok .skip w'):
  stepG P main (G (b.atR a (.inRegion ops (i::rest)::k)) cs) w=.go (G (b.atR (a.put o.dst undef) (.inRegion ops rest::k)) cs) w' (listed P b.fn a o w):=by
 have hk':(b.kind==CallKind.early)=false:=by simpa using hk
 rw[stR_oper hf ho hw,<-finR b a ho]
 simp[stepG.apply,hr,G,Frame.atR,hk',GStep.after,listed]
theorem stR_enter{f:FuncId}{args:Array Value}(hf:FreeOp b o)(ho:ops[i]?=some o)(hw:Region.wanted o (yielded ops a.tmps)=true)(hk:b.kind≠.early)(hr:(execOp a.eval o).run P w=.ok (.enter f args) w'):
  stepG P main (G (b.atR a (.inRegion ops (i::rest)::k)) cs) w=.go (G (Frame.enter P f args .normal) (b.atR a (.inRegion ops (i::rest)::k)::cs)) w' (listed P b.fn a o w):=by
 have hk':(b.kind==CallKind.early)=false:=by simpa using hk
 rw[stR_oper hf ho hw]
 simp[stepG.apply,hr,G,Frame.atR,hk',GStep.after,listed]
theorem stR_panic{v:Value}(hf:FreeOp b o)(ho:ops[i]?=some o)(hw:Region.wanted o (yielded ops a.tmps)=true)(hk:b.kind≠.early)(hr:(execOp a.eval o).run P w=.halt (.panic v) w'):
  stepG P main (G (b.atR a (.inRegion ops (i::rest)::k)) cs) w=.go (G ((b.atR a (.inRegion ops (i::rest)::k)).raise [{v,recovered:=false}]) cs) w' (listed P b.fn a o w):=by
 have hk':(b.kind==CallKind.early)=false:=by simpa using hk
 rw[stR_oper hf ho hw]
 simp[stepG.apply,hr,G,Frame.atR,hk',GStep.after,listed]
theorem stR_defer{d:Deferred}(hb:b.roundOf=none)(ho:ops[i]?=some o)(hw:Region.wanted o (yielded ops a.tmps)=true)(hk:b.kind≠.early)(hr:(execOp a.eval o).run P w=.ok (.defer d) w'):
  stepG P main (G (b.atR a (.inRegion ops (i::rest)::k)) cs) w=.go (G (b.atR (({a with defers:=d::a.defers}:Act).put o.dst undef) (.inRegion ops rest::k)) cs) w' (listed P b.fn a o w):=by
 have hfin:=finR b {a with defers:=d::a.defers} (rest:=rest) (k:=k) ho undef
 have hk':(b.kind==CallKind.early)=false:=by simpa using hk
 rw[stR_oper (.inl hb) ho hw,<-hfin]
 simp[stepG.apply,hr,G,Frame.atR,hk',GStep.after,listed]
theorem stR_recover(hb:b.roundOf=none)(ho:ops[i]?=some o)(hw:Region.wanted o (yielded ops a.tmps)=true)(hk:b.kind≠.early)(hr:(execOp a.eval o).run P w=.ok .recover w'):
  stepG P main (G (b.atR a (.inRegion ops (i::rest)::k)) cs) w=.go (match tryRecover (b.atR a (.inRegion ops (i::rest)::k)) cs with
   |some (v,cs')=>G (b.atR (a.put o.dst v) (.inRegion ops rest::k)) cs'
   |none=>G (b.atR (a.put o.dst .nilIface) (.inRegion ops rest::k)) cs) w' (listed P b.fn a o w):=by
 have hfin:∀v,(b.atR a (.inRegion ops (i::rest)::k)).finish v=b.atR (a.put o.dst v) (.inRegion ops rest::k):=finR b a ho
 have hk':(b.kind==CallKind.early)=false:=by simpa using hk
 rw[stR_oper (.inl hb) ho hw]
 simp only[<-hfin]
 generalize hf:(b.atR a (.inRegion ops (i::rest)::k))=f
 have h1:f.roundOf=none:=by rw[<-hf];exact hb
 have h2:f.fn=b.fn:=by rw[<-hf];rfl
 have h3:f.kind=b.kind:=by rw[<-hf];rfl
 cases hx:tryRecover f cs with
 |none=>simp[stepG.apply,hr,G,h1,h2,h3,hx,hk',GStep.after,listed]
 |some x=>simp[stepG.apply,hr,G,h1,h2,h3,hx,hk',GStep.after,listed]
theorem stR_drawn{id:Nat}(hm:P.follows .mixedOrders=true):
  ∃d t,stepG P main (G (b.atR a (.code (.region id ops true)::k)) cs) w=.go (G (b.atR a (.inRegion ops (Region.schedule true ops t)::k)) cs) (drawnAt w d):=by
 have hq:wq P (fun _=>True) (fun _ _=>False) (choose (.order b.fn id)) (fun t w'=>∃d,w'=drawnAt w d) w:=by
  rw[wq_choose]
  split
  ·exact⟨w.drawn,rfl⟩
  ·exact fun n=>⟨w.drawn+1,rfl⟩
 have:=(wq_run hq).1
 generalize hr:(choose (.order b.fn id)).run P w=r at this
 cases r with
 |ok t w'=>
  obtain⟨d,rfl⟩:=this
  exact⟨d,t,by simp[G,stepG,stepG.exec,Frame.atR,hr,hm]⟩
 |halt x w'=>cases x<;>exact this.elim
end
def Next(K:Ctx)(U:Nat->Prop)(ρ:Env)(cs:List Frame)(w:World)(h0:AH)(c:ACfg)(g':Goroutine)(w':World):Prop:=
 ∃ρ',Agree U ρ ρ'∧Keeps K.own w w'∧Grows K U h0 c.h∧CIds K (plus U h0.nb c.h.nb) c∧Gam K ρ' c cs g' w'
def Leads(K:Ctx)(main:Bool)(c c':ACfg)(N:Nat):Prop:=∀U ρ cs g w,CIds K U c->Gam K ρ c cs g w->Walk K.P main (DK K) (Next K U ρ cs w c.h c') N g w
def bot:FuncId->List AFrame->FuncId
 |f,[]=>f
 |_,fr::l=>bot fr.fn l
def EndsAs(K:Ctx)(f:FuncId)(ρ:Env)(e:AE)(cs:List Frame)(g:Goroutine)(w:World):Prop:=
 ∃fr fn,g=G fr cs∧fr.fn=f∧fr.defers=[]∧K.P.funcs[fr.fn]?=some fn∧match e with
  |.returned v=>fr.mode=.returning∧fr.kind=.normal∧∀d,∀{Q:Value->World->Prop},Q (v.ev ρ) (drawnAt w d)->wq K.P K.Ev (fun _ _=>False) (results fn fr.tmps) Q (drawnAt w d)
  |.panicked chain=>fr.mode=(AMode.panicking chain).ev ρ
def AE.In(U:Nat->Prop):AE->Prop
 |.returned v=>v.In U
 |.panicked chain=>∀x∈chain,x.1.In U
def Done(K:Ctx)(f:FuncId)(U:Nat->Prop)(ρ:Env)(cs:List Frame)(w:World)(h0:AH)(r:AE×AH)(g':Goroutine)(w':World):Prop:=
 ∃ρ',Agree U ρ ρ'∧Keeps K.own w w'∧Grows K U h0 r.2∧r.1.In (plus U h0.nb r.2.nb)∧Rel K ρ' r.2 w'∧EndsAs K f ρ' r.1 cs g' w'
def Ends(K:Ctx)(main:Bool)(c:ACfg)(r:AE×AH)(N:Nat):Prop:=∀U ρ cs g w,CIds K U c->Gam K ρ c cs g w->Walk K.P main (DK K) (Done K (bot c.cur.fn c.callers) U ρ cs w c.h r) N g w
section
variable {K:Ctx}{main:Bool}{U:Nat->Prop}{ρ:Env}{cs:List Frame}
theorem CIds.congr{U U':Nat->Prop}{c:ACfg}(I:CIds K U c)(h:∀n,U n↔U' n):CIds K U' c:=
 ⟨I.cur.mono fun n=>(h n).1,fun fr hf=>(I.callers fr hf).mono fun n=>(h n).1,I.ids.congr h⟩
theorem plus_same(U:Nat->Prop)(a n:Nat):U n↔plus U a a n:=⟨.inl,plus_none n⟩
theorem AE.In.mono{U U':Nat->Prop}(hs:∀n,U n->U' n){e:AE}(h:e.In U):e.In U':=by
 cases e with
 |returned v=>exact AV.In.mono hs _ h
 |panicked c=>exact fun x hx=>AV.In.mono hs _ (h x hx)
theorem Next.trans{w w' w'':World}{h0:AH}{c c':ACfg}{g'':Goroutine}{ρ':Env}(A:Agree U ρ ρ')(k:Keeps K.own w w')(gr:Grows K U h0 c.h)
 (n:Next K (plus U h0.nb c.h.nb) ρ' cs w' c.h c' g'' w''):Next K U ρ cs w h0 c' g'' w'':=by
 obtain⟨ρ'',a1,a2,a3,a4,a5⟩:=n
 exact⟨ρ'',A.trans a1 plus_sub,k.trans a2,gr.trans a3,a4.congr fun n=>plus_plus gr.nb a3.nb n,a5⟩
theorem Done.trans{w w' w'':World}{h0:AH}{f:FuncId}{c:ACfg}{r:AE×AH}{g'':Goroutine}{ρ':Env}(A:Agree U ρ ρ')(k:Keeps K.own w w')(gr:Grows K U h0 c.h)
 (n:Done K f (plus U h0.nb c.h.nb) ρ' cs w' c.h r g'' w''):Done K f U ρ cs w h0 r g'' w'':=by
 obtain⟨ρ'',a1,a2,a3,a4,a5,a6⟩:=n
 exact⟨ρ'',A.trans a1 plus_sub,k.trans a2,gr.trans a3,a4.mono fun n=>(plus_plus gr.nb a3.nb n).1,a5,a6⟩
theorem Leads.trans{c c' c'':ACfg}{N M:Nat}(l:Leads K main c c' N)(l':Leads K main c' c'' M):Leads K main c c'' (N+M):=fun U ρ cs g w I Γ=>
 Walk.trans (fun g' w' ⟨ρ',a1,a2,a3,a4,a5⟩=>(l' _ ρ' cs g' w' a4 a5).weaken fun _ _ n=>Next.trans a1 a2 a3 n) (l U ρ cs g w I Γ)
theorem Leads.ends{c c':ACfg}{r:AE×AH}{N M:Nat}(hb:bot c'.cur.fn c'.callers=bot c.cur.fn c.callers)(l:Leads K main c c' N)(l':Ends K main c' r M):Ends K main c r (N+M):=fun U ρ cs g w I Γ=>
 Walk.trans (fun g' w' ⟨ρ',a1,a2,a3,a4,a5⟩=>(l' _ ρ' cs g' w' a4 a5).weaken fun _ _ n=>by rw[hb]at n;exact Done.trans a1 a2 a3 n) (l U ρ cs g w I Γ)
theorem keeps_drawn(own:Nat->Prop)(w:World)(d:Nat):Keeps own w (drawnAt w d):=⟨fun _ _=>rfl,Nat.le_refl _,rfl,rfl,rfl⟩
theorem Rel.drawn{h:AH}{w:World}(R:Rel K ρ h w)(d:Nat):Rel K ρ h (drawnAt w d):=R.at rfl
theorem Gam.drawn{c:ACfg}{g:Goroutine}{w:World}(h:Gam K ρ c cs g w)(d:Nat):Gam K ρ c cs g (drawnAt w d):=⟨h.1.drawn d,h.2⟩
theorem Gam.running{c:ACfg}{g:Goroutine}{w:World}(h:Gam K ρ c cs g w):g.status=.running:=by
 obtain⟨_,fr,frs,_,_,rfl⟩:=h;rfl
theorem leads_go{c c':ACfg}(hh:c'.h=c.h)(hin:∀U,CIds K U c->CIds K U c')(hs:∀ρ cs g w,Gam K ρ c cs g w->∃g',stepG K.P main g w=.go g' w #[]∧Gam K ρ c' cs g' w):
  Leads K main c c' 1:=fun U ρ cs g w I Γ=>Walk.one Γ.running fun d=>by
 obtain⟨g',e,Γ'⟩:=hs ρ cs g _ (Γ.drawn d)
 rw[e]
 refine⟨⟨Keeps.refl _ _,fun e he=>(by simp at he),fun _ _ _ _ x=>x⟩,ρ,Agree.refl _ _,keeps_drawn _ _ _,?_,?_,Γ'⟩
 ·rw[hh];exact Grows.refl I.ids
 ·rw[hh];exact(hin U I).congr (plus_same U _)
section frame
variable {fn:FuncId}{nt:Nat}{tmps:TT}{todo todo':List Item}{defers:List AD}{kind:CallKind}{callers:List AFrame}{h:AH}
theorem gam_run{g:Goroutine}{w:World}:Gam K ρ ⟨⟨fn,nt,tmps,todo,defers,.run,kind⟩,callers,h⟩ cs g w↔
  Rel K ρ h w∧∃tm frs,TmpR ρ nt tmps tm∧(plainK kind∨kind=.wrapped)∧(∃f,K.P.funcs[fn]?=some f)∧FrRels K.P ρ callers frs∧g=G ((bB ρ fn kind).atR (aB ρ kind tm defers) todo) (frs++cs):=by
 constructor
 ·rintro⟨R,fr,frs,⟨tm,td,i,rfl⟩,hc,rfl⟩
  have:td=todo:=i.todo rfl
  subst this
  exact⟨R,tm,frs,i.tmps,i.kind,i.fn,hc,rfl⟩
 ·rintro⟨R,tm,frs,h1,h2,h3,hc,rfl⟩
  exact⟨R,_,frs,⟨tm,todo,⟨h1,h2,fun _=>rfl,h3⟩,rfl⟩,hc,rfl⟩
theorem leads_to(hs:∀ρ tm w cs,Rel K ρ h w->TmpR ρ nt tmps tm->∀(b:Frame) (ds:List Deferred),stepG K.P main (G (b.atR ⟨tm,ds⟩ todo) cs) w=.go (G (b.atR ⟨tm,ds⟩ todo') cs) w #[]):
  Leads K main ⟨⟨fn,nt,tmps,todo,defers,.run,kind⟩,callers,h⟩ ⟨⟨fn,nt,tmps,todo',defers,.run,kind⟩,callers,h⟩ 1:=
 leads_go rfl (fun U I=>⟨⟨I.cur.tmps,I.cur.defers,trivial⟩,I.callers,I.ids⟩) fun ρ cs g w Γ=>by
  obtain⟨R,tm,frs,h1,h2,h3,hc,rfl⟩:=gam_run.1 Γ
  exact⟨_,hs ρ tm w _ R h1 _ _,gam_run.2 ⟨R,tm,frs,h1,h2,h3,hc,rfl⟩⟩
theorem leads_ret(ht:tagged kind=false)(hs:∀(b:Frame) (a:Act) w cs,b.roundOf=none->stepG K.P main (G (b.atR a todo) cs) w=.go (G {b.atR a todo with mode:=.returning} cs) w #[]):
  Leads K main ⟨⟨fn,nt,tmps,todo,defers,.run,kind⟩,callers,h⟩ ⟨⟨fn,nt,tmps,todo',defers,.returning,kind⟩,callers,h⟩ 1:=
 leads_go rfl (fun U I=>⟨⟨I.cur.tmps,I.cur.defers,trivial⟩,I.callers,I.ids⟩) fun ρ cs g w Γ=>by
  obtain⟨R,tm,frs,h1,h2,h3,hc,rfl⟩:=gam_run.1 Γ
  exact⟨_,hs _ _ w _ (plain_round (plain_of h2 ht) ρ fn),R,_,frs,⟨tm,todo,⟨h1,h2,(fun x=>by cases x),h3⟩,rfl⟩,hc,rfl⟩
theorem leads_unwanted{ops:Array Oper}{i:Nat}{rest:List Nat}{k:List Item}{o:Oper}(ho:ops[i]?=some o)(hw:wantedA K.O ops tmps o=.ok false):
  Leads K main ⟨⟨fn,nt,tmps,.inRegion ops (i::rest)::k,defers,.run,kind⟩,callers,h⟩ ⟨⟨fn,nt,putA nt tmps o.dst undefA,.inRegion ops rest::k,defers,.run,kind⟩,callers,h⟩ 1:=fun U ρ cs g w I Γ=>by
 have hnt:nt≤60000:=by obtain⟨R,tm,frs,h1,_⟩:=gam_run.1 Γ;exact h1.le
 have hin:∀U,CIds K U ⟨⟨fn,nt,tmps,.inRegion ops (i::rest)::k,defers,.run,kind⟩,callers,h⟩->CIds K U ⟨⟨fn,nt,putA nt tmps o.dst undefA,.inRegion ops rest::k,defers,.run,kind⟩,callers,h⟩:=fun U I=>
  ⟨⟨putA_in I.cur.tmps (by simp[undefA,AV.In,AV.Ins]) hnt,I.cur.defers,trivial⟩,I.callers,I.ids⟩
 have L:Leads K main ⟨⟨fn,nt,tmps,.inRegion ops (i::rest)::k,defers,.run,kind⟩,callers,h⟩ ⟨⟨fn,nt,putA nt tmps o.dst undefA,.inRegion ops rest::k,defers,.run,kind⟩,callers,h⟩ 1:=by
  refine leads_go rfl hin ?_
  intro ρ cs g w Γ
  obtain⟨R,tm,frs,h1,h2,h3,hc,rfl⟩:=gam_run.1 Γ
  obtain⟨tm',e,h1'⟩:=put_tmps (v:=undefA) h1 (dB ρ kind (defers.map (AD.ev ρ))) o.dst
  refine⟨_,stR_unwanted ho (wantedA_ok R h1 hw),gam_run.2 ⟨R,tm',frs,h1',h2,h3,hc,?_⟩⟩
  show G ((bB ρ fn kind).atR (Act.put ⟨tm,dB ρ kind (defers.map (AD.ev ρ))⟩ o.dst (undefA.ev ρ)) _) _=_
  rw[e];rfl
 exact L U ρ cs g w I Γ
end frame
section op
variable {P:Program}{b:Frame}{a:Act}{k:List Item}{w:World}{ops:Array Oper}{i:Nat}{rest:List Nat}{o:Oper}{w':World}
end op
theorem op?_defer{P:Program}{O:Orc}{ext:Ext}{h h':AH}{f:Operand->AV}{o:Oper}{n:AN}{c:Call}(he:op? P O ext h f o=.ok (n,h'))(hc:o.op=.defer c):∃d,n=.defer d:=by
 unfold op? at he
 rw[hc]at he
 dsimp only at he
 split at he
 ·cases he;exact⟨_,rfl⟩
 ·cases he
def NextG(P:Program)(ρ:Env)(b:Frame)(a:Act)(dst:Option Tmp)(ops:Array Oper)(i:Nat)(rest:List Nat)(k:List Item)(cs:List Frame):AN->Goroutine->Prop
 |.value v,g=>g=G (b.atR (a.put dst (v.ev ρ)) (.inRegion ops rest::k)) cs
 |.skip,g=>g=G (b.atR (a.put dst undef) (.inRegion ops rest::k)) cs
 |.enter f args,g=>g=G (Frame.enter P f (AV.evs ρ args).toArray .normal) (b.atR a (.inRegion ops (i::rest)::k)::cs)
 |.defer d,g=>g=G (b.atR (({a with defers:=d.ev ρ::a.defers}:Act).put dst undef) (.inRegion ops rest::k)) cs
 |.recover,g=>g=match tryRecover (b.atR a (.inRegion ops (i::rest)::k)) cs with
  |some (v,cs')=>G (b.atR (a.put dst v) (.inRegion ops rest::k)) cs'
  |none=>G (b.atR (a.put dst .nilIface) (.inRegion ops rest::k)) cs
 |.panic v,g=>g=G ((b.atR a (.inRegion ops (i::rest)::k)).raise [{v:=v.ev ρ,recovered:=false}]) cs
def OpPost(K:Ctx)(U:Nat->Prop)(ρ:Env)(cs:List Frame)(w:World)(fn:FuncId)(nt:Nat)(tmps:TT)(defers:List AD)(kind:CallKind)(callers:List AFrame)(h:AH)(dst:Option Tmp)(ops:Array Oper)(i:Nat)(rest:List Nat)(k:List Item)
 (n:AN)(h':AH)(g':Goroutine)(w':World):Prop:=
 ∃ρ',Agree U ρ ρ'∧Keeps K.own w w'∧Rel K ρ' h' w'∧Grows K U h h'∧n.In (plus U h.nb h'.nb)∧∃tm frs,TmpR ρ' nt tmps tm∧(plainK kind∨kind=.wrapped)∧(∃f,K.P.funcs[fn]?=some f)∧FrRels K.P ρ' callers frs∧
  NextG K.P ρ' (bB ρ' fn kind) (aB ρ' kind tm defers) dst ops i rest k (frs++cs) n g'
theorem op_step(Gd:K.Good)(F:K.Facts){ext:Ext}(X:ExtOk K ext){fn:FuncId}{nt:Nat}{tmps:TT}{defers:List AD}{kind:CallKind}{callers:List AFrame}{h:AH}{ops:Array Oper}{i:Nat}{rest:List Nat}{k:List Item}{o:Oper}{n:AN}{h':AH}
 (ho:ops[i]?=some o)(hw:wantedA K.O ops tmps o=.ok true)(he:op? K.P K.O ext h (evalA tmps) o=.ok (n,h'))(htag:tagOk kind n=true){g:Goroutine}{w:World}
 (I:CIds K U ⟨⟨fn,nt,tmps,.inRegion ops (i::rest)::k,defers,.run,kind⟩,callers,h⟩)(Γ:Gam K ρ ⟨⟨fn,nt,tmps,.inRegion ops (i::rest)::k,defers,.run,kind⟩,callers,h⟩ cs g w):
  Walk K.P main (DK K) (OpPost K U ρ cs w fn nt tmps defers kind callers h o.dst ops i rest k n h') 1 g w:=Walk.one Γ.running fun d=>by
 obtain⟨R,tm,frs,h1,h2,h3,hc,rfl⟩:=gam_run.1 (Γ.drawn d)
 have N:=op?_ok Gd F X R I.ids (evalA_in I.cur.tmps) he
 have hev:(aB ρ kind tm defers).eval=fun x=>(evalA tmps x).ev ρ:=funext fun x=>evalA_ev h1 _ x
 have hwt:Region.wanted o (yielded ops (aB ρ kind tm defers).tmps)=true:=wantedA_ok R h1 hw
 have hke:=bB_kind h2 ρ fn
 have hfree:FreeOp (bB ρ fn kind) o:=by
  cases ht:tagged kind with
  |false=>exact .inl (plain_round (plain_of h2 ht) ρ fn)
  |true=>
   refine .inr fun c hc=>?_
   obtain⟨d,rfl⟩:=op?_defer he hc
   unfold tagOk at htag
   rw[ht]at htag
   cases htag
 have hround:tagged kind=false->(bB ρ fn kind).roundOf=none:=fun ht=>plain_round (plain_of h2 ht) ρ fn
 have htd:∀{d:AD},n=.defer d->tagged kind=false:=fun e=>by
  subst e
  cases ht:tagged kind with
  |false=>rfl
  |true=>unfold tagOk at htag;rw[ht]at htag;cases htag
 have htr:n=.recover->tagged kind=false:=fun e=>by
  subst e
  cases ht:tagged kind with
  |false=>rfl
  |true=>unfold tagOk at htag;rw[ht]at htag;cases htag
 have run:=wq_run (wq_keep Gd.noWr _ (N.run (E:=fun v w'=>∃v',n=.panic v'∧h'=h∧v=v'.ev ρ∧w'=drawnAt w d) (Q:=fun nx w'=>After K U ρ (drawnAt w d) h' (fun ρ'=>n.is ρ' nx) w') (fun nx w' x=>x) (fun v hn hh=>⟨v,hn,hh,rfl,rfl⟩)))
 rw[<-hev]at run
 obtain⟨run,hes⟩:=run
 have hes':∀e∈listed K.P (bB ρ fn kind).fn (aB ρ kind tm defers) o (drawnAt w d),K.Ev e:=fun e he=>hes e (mem_listed he)
 have post:∀{ρ':Env} {w':World} {g':Goroutine},Agree U ρ ρ'->Rel K ρ' h' w'->Keeps K.own (drawnAt w d) w'->
   NextG K.P ρ' (bB ρ fn kind) (aB ρ kind tm defers) o.dst ops i rest k (frs++cs) n g'->
   OpPost K U ρ cs w fn nt tmps defers kind callers h o.dst ops i rest k n h' g' w':=fun A R' k x=>
  ⟨_,A,(keeps_drawn _ w d).trans k,R',N.grows,N.mem,tm,frs,h1.agree A I.cur.tmps,h2,h3,callers_agree A hc I.callers,by rw[bB_agree A,aB_agree A kind tm I.cur.defers];exact x⟩
 generalize hr:(execOp (aB ρ kind tm defers).eval o).run K.P (drawnAt w d)=r at run
 cases r with
 |ok nx w'=>
  obtain⟨⟨ρ',A,R',kp,is⟩,hst⟩:=run
  cases n with
  |value v=>
   have is':nx=.value (v.ev ρ'):=is
   subst is'
   rw[stR_value hfree ho hwt hke hr]
   exact⟨⟨kp,hes',hst⟩,post A R' kp rfl⟩
  |skip=>
   have is':nx=.skip:=is
   subst is'
   rw[stR_none hfree ho hwt hke hr]
   exact⟨⟨kp,hes',hst⟩,post A R' kp rfl⟩
  |enter f args=>
   have is':nx=.enter f (AV.evs ρ' args).toArray:=is
   subst is'
   rw[stR_enter hfree ho hwt hke hr]
   exact⟨⟨kp,hes',hst⟩,post A R' kp rfl⟩
  |defer x=>
   have is':nx=.defer (x.ev ρ'):=is
   subst is'
   rw[stR_defer (hround (htd rfl)) ho hwt hke hr]
   exact⟨⟨kp,hes',hst⟩,post A R' kp rfl⟩
  |recover=>
   have is':nx=.recover:=is
   subst is'
   rw[stR_recover (hround (htr rfl)) ho hwt hke hr]
   exact⟨⟨kp,hes',hst⟩,post A R' kp rfl⟩
  |panic v=>exact is.elim
 |halt x w'=>
  cases x with
  |panic v=>
   obtain⟨v',rfl,rfl,rfl,rfl⟩:=run
   rw[stR_panic hfree ho hwt hke hr]
   exact⟨⟨Keeps.refl _ _,hes',fun _ _ _ _ x=>x⟩,post (Agree.refl _ _) R (Keeps.refl _ _) rfl⟩
  |_=>exact run.elim
end
section
variable {K:Ctx}{main:Bool}{U:Nat->Prop}{ρ:Env}{cs:List Frame}
variable {fn:FuncId}{nt:Nat}{tmps:TT}{todo todo':List Item}{defers:List AD}{kind:CallKind}{callers:List AFrame}{h:AH}
variable {ops:Array Oper}{i:Nat}{rest:List Nat}{k:List Item}{o:Oper}
theorem finishA_ok{fr:AFrame}{v:AV}{fr':AFrame}(hf:finishA fr v=.ok fr'):∃fn nt tmps ops i rest k defers kind,fr=⟨fn,nt,tmps,.inRegion ops (i::rest)::k,defers,.run,kind⟩∧
  fr'=⟨fn,nt,putA nt tmps ((ops[i]?).bind (·.dst)) v,.inRegion ops rest::k,defers,.run,kind⟩:=by
 unfold finishA at hf
 split at hf
 ·cases hf;exact⟨_,_,_,_,_,_,_,_,_,rfl,rfl⟩
 ·cases hf
theorem undefA_in:undefA.In U:=by simp[undefA,AV.In,AV.Ins]
theorem tag_v{k:CallKind}{v:AV}:tagOk k (.value v)=true:=by unfold tagOk;cases tagged k<;>rfl
theorem tag_s{k:CallKind}:tagOk k .skip=true:=by unfold tagOk;cases tagged k<;>rfl
theorem tag_e{k:CallKind}{f:FuncId}{args:List AV}:tagOk k (.enter f args)=true:=by unfold tagOk;cases tagged k<;>rfl
theorem tag_p{k:CallKind}{v:AV}:tagOk k (.panic v)=true:=by unfold tagOk;cases tagged k<;>rfl
theorem aB_cons{ρ:Env}{k:CallKind}{tm:Array Value}{d:AD}{ds:List AD}:aB ρ k tm (d::ds)={aB ρ k tm ds with defers:=d.ev ρ::(aB ρ k tm ds).defers}:=by
 unfold aB;rw[List.map_cons,dB_cons]
theorem next_put{w w':World}{h':AH}{ρ':Env}{v:AV}{tm:Array Value}{frs:List Frame}{ds:List AD}{callers':List AFrame}{dst:Option Tmp}
 (A:Agree U ρ ρ')(kp:Keeps K.own w w')(R:Rel K ρ' h' w')(gr:Grows K U h h')(hv:v.In (plus U h.nb h'.nb))(ht:tmps.In U)(hd:∀d∈ds,d.In (plus U h.nb h'.nb))(hcal:∀fr∈callers',fr.In (plus U h.nb h'.nb))
 (h1:TmpR ρ' nt tmps tm)(h2:plainK kind∨kind=.wrapped)(h3:∃f,K.P.funcs[fn]?=some f)(hc:FrRels K.P ρ' callers' frs):
  Next K U ρ cs w h ⟨⟨fn,nt,putA nt tmps dst v,.inRegion ops rest::k,ds,.run,kind⟩,callers',h'⟩ (G ((bB ρ' fn kind).atR ((aB ρ' kind tm ds).put dst (v.ev ρ')) (.inRegion ops rest::k)) (frs++cs)) w':=by
 obtain⟨tm',e,h1'⟩:=put_tmps (v:=v) h1 (dB ρ' kind (ds.map (AD.ev ρ'))) dst
 refine⟨ρ',A,kp,gr,⟨⟨putA_in (TT.In.mono plus_sub ht) hv h1.le,hd,trivial⟩,hcal,gr.ids⟩,gam_run.2 ⟨R,tm',frs,h1',h2,h3,hc,?_⟩⟩
 show G ((bB ρ' fn kind).atR (Act.put ⟨tm,dB ρ' kind (ds.map (AD.ev ρ'))⟩ dst (v.ev ρ')) _) _=_
 rw[e];rfl
def RecIs(P:Program)(U:Nat->Prop)(ρ:Env)(cs:List Frame)(fr:Frame)(frs:List Frame):Option (AV×List AFrame)->Prop
 |some (v,callers')=>v.In U∧(∀fr∈callers',fr.In U)∧∃frs',tryRecover fr (frs++cs)=some (v.ev ρ,frs'++cs)∧FrRels P ρ callers' frs'
 |none=>tryRecover fr (frs++cs)=none
theorem tryRecover_ok{P:Program}{fr:Frame}{frs:List Frame}{r:Option (AV×List AFrame)}(hk:fr.kind=kind)(hr:recoverA kind callers=.ok r)(hc:FrRels P ρ callers frs)(hcal:∀fr∈callers,fr.In U):
  RecIs P U ρ cs fr frs r:=by
 cases kind with
 |normal=>
  cases hr
  show tryRecover _ _=none
  simp[tryRecover,hk]
 |deferred=>
  cases callers with
  |nil=>cases hr
  |cons c tail=>
   obtain⟨fn,nt,tmps,todo,defers,mode,kd⟩:=c
   cases frs with
   |nil=>simp only[FrRels]at hc
   |cons f frs=>
    simp only[FrRels]at hc
    obtain⟨⟨tm,td',is,rfl⟩,hc2⟩:=hc
    have other:r=none->(match mode.ev ρ with|.panicking ({v,recovered:=false,goexit:=false}::older)=>False|_=>True)->RecIs P U ρ cs fr (frameOf ρ ⟨fn,nt,tmps,todo,defers,mode,kd⟩ tm td'::frs) r:=by
     intro h1 h2
     subst h1
     show tryRecover _ _=none
     simp only[tryRecover,hk,List.cons_append]
     have:(frameOf ρ ⟨fn,nt,tmps,todo,defers,mode,kd⟩ tm td').mode=mode.ev ρ:=rfl
     rw[this]
     revert h2
     generalize mode.ev ρ=m
     split
     ·exact False.elim
     ·rename_i hne
      intro _
      split
      ·rename_i v older;exact absurd rfl (hne v older)
      ·rfl
    cases mode with
    |run=>cases hr;exact other rfl trivial
    |returning=>cases hr;exact other rfl trivial
    |panicking chain=>
     cases chain with
     |nil=>cases hr;exact other rfl trivial
     |cons x older=>
      obtain⟨v,b'⟩:=x
      cases b' with
      |true=>cases hr;exact other rfl trivial
      |false=>
       cases hr
       have hin:=hcal _ (List.mem_cons_self ..)
       have hm:∀x∈(v,false)::older,x.1.In U:=hin.mode
       refine⟨hm _ (List.mem_cons_self ..),?_,{frameOf ρ ⟨fn,nt,tmps,todo,defers,.panicking ((v,true)::older),kd⟩ tm td' with mode:=(AMode.panicking ((v,true)::older)).ev ρ}::frs,?_,⟨tm,td',⟨is.tmps,is.kind,(fun x=>by cases x),is.fn⟩,rfl⟩,hc2⟩
       ·intro fr hfr
        rcases List.mem_cons.1 hfr with rfl|hfr
        ·refine⟨hin.tmps,hin.defers,?_⟩
         intro x hx
         rcases List.mem_cons.1 hx with rfl|hx
         ·exact hm (v,false) (List.mem_cons_self ..)
         ·exact hm x (List.mem_cons_of_mem _ hx)
        ·exact hcal fr (List.mem_cons_of_mem _ hfr)
       ·simp only[tryRecover,hk,List.cons_append,frameOf,AMode.ev,List.map_cons]
 |_=>cases hr
theorem upon_next{n:AN}{h':AH}{c':ACfg}{w w':World}{g':Goroutine}(hu:upon K.P ⟨fn,nt,tmps,.inRegion ops (i::rest)::k,defers,.run,kind⟩ callers n h'=.ok c')(ho:ops[i]?=some o)
 (I:CIds K U ⟨⟨fn,nt,tmps,.inRegion ops (i::rest)::k,defers,.run,kind⟩,callers,h⟩)(post:OpPost K U ρ cs w fn nt tmps defers kind callers h o.dst ops i rest k n h' g' w'):Next K U ρ cs w h c' g' w':=by
 obtain⟨ρ',A,kp,R,gr,mem,tm,frs,h1,h2,h3,hc,ng⟩:=post
 have hd:∀d∈defers,d.In (plus U h.nb h'.nb):=fun d hd=>(I.cur.defers d hd).mono plus_sub
 have hcal:∀fr∈callers,fr.In (plus U h.nb h'.nb):=fun fr hf=>(I.callers fr hf).mono plus_sub
 cases n with
 |value v=>
  simp only[upon,finishA,ho]at hu
  cases hu
  have ng':g'=_:=ng
  rw[ng']
  exact next_put A kp R gr mem I.cur.tmps hd hcal h1 h2 h3 hc
 |skip=>
  simp only[upon,finishA,ho]at hu
  cases hu
  have ng':g'=_:=ng
  rw[ng']
  exact next_put (v:=undefA) A kp R gr undefA_in I.cur.tmps hd hcal h1 h2 h3 hc
 |defer d=>
  simp only[upon,finishA,ho]at hu
  cases hu
  have ng':g'=_:=ng
  rw[ng']
  rw[<-aB_cons]
  refine next_put (v:=undefA) (ds:=d::defers) A kp R gr undefA_in I.cur.tmps ?_ hcal h1 h2 h3 hc
  intro x hx
  rcases List.mem_cons.1 hx with rfl|hx
  ·exact mem
  ·exact hd x hx
 |enter f args=>
  simp only[upon]at hu
  split at hu
  ·rename_i fr' he
   cases hu
   have ng':g'=_:=ng
   rw[ng']
   obtain⟨e1,e2,e3,e4,e5⟩:=enterA_ok he (.inl rfl) mem (ρ:=ρ')
   refine⟨ρ',A,kp,gr,⟨e2,?_,gr.ids⟩,R,_,(bB ρ' fn kind).atR (aB ρ' kind tm defers) (.inRegion ops (i::rest)::k)::frs,e1,⟨⟨tm,_,⟨h1,h2,fun _=>rfl,h3⟩,rfl⟩,hc⟩,rfl⟩
   intro fr hfr
   rcases List.mem_cons.1 hfr with rfl|hfr
   ·exact I.cur.mono plus_sub
   ·exact hcal fr hfr
  ·cases hu
 |recover=>
  simp only[upon,finishA,ho]at hu
  have ng':g'=_:=ng
  rw[ng']
  split at hu
  ·cases hu
  ·rename_i v callers' hr
   cases hu
   have hpk:plainK kind:=by
    rcases h2 with h2|rfl
    ·exact h2
    ·cases hr
   obtain⟨t1,t2,frs',t3,t4⟩:=tryRecover_ok (cs:=cs) (fr:=(bB ρ' fn kind).atR (aB ρ' kind tm defers) (.inRegion ops (i::rest)::k)) (by rw[plain_bB hpk];rfl) hr hc hcal
   rw[t3]
   exact next_put A kp R gr t1 I.cur.tmps hd t2 h1 h2 h3 t4
  ·rename_i hr
   cases hu
   have hpk:plainK kind:=by
    rcases h2 with h2|rfl
    ·exact h2
    ·cases hr
   have t3:=tryRecover_ok (cs:=cs) (fr:=(bB ρ' fn kind).atR (aB ρ' kind tm defers) (.inRegion ops (i::rest)::k)) (by rw[plain_bB hpk];rfl) hr hc hcal
   simp only[RecIs]at t3
   rw[t3]
   exact next_put (v:=.nilIface) A kp R gr trivial I.cur.tmps hd hcal h1 h2 h3 hc
 |panic v=>
  simp only[upon,raiseA]at hu
  cases hu
  have ng':g'=_:=ng
  rw[ng']
  refine⟨ρ',A,kp,gr,⟨⟨TT.In.mono plus_sub I.cur.tmps,hd,?_⟩,hcal,gr.ids⟩,R,_,frs,⟨tm,_,⟨h1,h2,(fun x=>by cases x),h3⟩,rfl⟩,hc,rfl⟩
  intro x hx
  simp only[List.mem_singleton]at hx
  subst hx
  exact mem
end
def CallOk(K:Ctx)(main:Bool)(call:FuncId->List AV->AH->M (AE×AH)):Prop:=
 ∀f args h r,call f args h=.ok r->∃fr N,enterA K.P f args .normal=.ok fr∧Ends K main ⟨fr,[],h⟩ r N
section
variable {K:Ctx}{main:Bool}{U:Nat->Prop}{ρ:Env}{cs:List Frame}
variable {fn:FuncId}{nt:Nat}{tmps:TT}{todo todo':List Item}{defers:List AD}{kind:CallKind}{callers:List AFrame}{h:AH}
variable {ops:Array Oper}{i:Nat}{rest:List Nat}{k:List Item}{o:Oper}
theorem leave_step{f:FuncId}{ρ:Env}{v:AV}{caller:Frame}{g:Goroutine}{w:World}(E:EndsAs K f ρ (.returned v) (caller::cs) g w):Walk K.P main (DK K) (fun g' w'=>(∃d,w'=drawnAt w d)∧g'=G (caller.finish (v.ev ρ)) cs) 1 g w:=by
 obtain⟨fr,fnn,rfl,_,hd,hf,hm,hk,hq⟩:=E
 refine Walk.one rfl fun d=>?_
 have hrun:=wq_run (hq d (Q:=fun x w'=>x=v.ev ρ∧w'=drawnAt w d) ⟨rfl,rfl⟩)
 obtain⟨hrun,hes⟩:=hrun
 generalize hr:(results fnn fr.tmps).run K.P (drawnAt w d)=r at hrun
 cases r with
 |ok x w'=>
  obtain⟨rfl,rfl⟩:=hrun
  have:stepG K.P main (G fr (caller::cs)) (drawnAt w d)=.go (G (caller.finish (v.ev ρ)) cs) (drawnAt w d) (seen K.P fr.fn ((results fnn fr.tmps).events K.P (drawnAt w d) #[])):=by
   simp[G,stepG,unwind,doReturn,hm,hd,hf,hr,hk,GStep.after]
  rw[this]
  exact⟨⟨Keeps.refl _ _,fun e he=>hes e (mem_seen he),fun _ _ _ _ x=>x⟩,⟨d,rfl⟩,rfl⟩
 |halt x w'=>cases x<;>exact hrun.elim
theorem raise_step{f:FuncId}{ρ:Env}{chain:List (AV×Bool)}{caller:Frame}{g:Goroutine}{w:World}(E:EndsAs K f ρ (.panicked chain) (caller::cs) g w):
  Walk K.P main (DK K) (fun g' w'=>(∃d,w'=drawnAt w d)∧g'=G (caller.raise (chain.map fun x=>{v:=x.1.ev ρ,recovered:=x.2})) cs) 1 g w:=by
 obtain⟨fr,fnn,rfl,_,hd,hf,hm⟩:=E
 refine Walk.one rfl fun d=>?_
 have hm':fr.mode=.panicking (chain.map fun x=>{v:=x.1.ev ρ,recovered:=x.2}):=hm
 have:stepG K.P main (G fr (caller::cs)) (drawnAt w d)=.go (G (caller.raise (chain.map fun x=>{v:=x.1.ev ρ,recovered:=x.2})) cs) (drawnAt w d) #[]:=by
  simp[G,stepG,unwind,hm',hd,hf,Frame.catches]
 rw[this]
 exact⟨⟨Keeps.refl _ _,fun e he=>(by simp at he),fun _ _ _ _ x=>x⟩,⟨d,rfl⟩,rfl⟩
def ARNext(K:Ctx)(U:Nat->Prop)(ρ:Env)(cs:List Frame)(w:World)(h0:AH)(fn:FuncId)(nt:Nat)(todo:List Item)(defers:List AD)(kind:CallKind)(callers:List AFrame):AR->Goroutine->World->Prop
 |.on t h,g',w'=>Next K U ρ cs w h0 ⟨⟨fn,nt,t,todo,defers,.run,kind⟩,callers,h⟩ g' w'
 |.panic t chain h,g',w'=>∀td,Next K U ρ cs w h0 ⟨⟨fn,nt,t,td,defers,.panicking chain,kind⟩,callers,h⟩ g' w'
theorem opFull_ok(Gd:K.Good)(F:K.Facts){ext:Ext}(X:ExtOk K ext){call:FuncId->List AV->AH->M (AE×AH)}(C:CallOk K main call){r:AR}(he:opFull K.P K.O ext call nt ops i tmps h=.ok r):
  ∃N,∀{fn defers kind callers U ρ cs g w rest k},CIds K U ⟨⟨fn,nt,tmps,.inRegion ops (i::rest)::k,defers,.run,kind⟩,callers,h⟩->Gam K ρ ⟨⟨fn,nt,tmps,.inRegion ops (i::rest)::k,defers,.run,kind⟩,callers,h⟩ cs g w->
   Walk K.P main (DK K) (ARNext K U ρ cs w h fn nt (.inRegion ops rest::k) defers kind callers r) N g w:=by
 unfold opFull at he
 split at he
 ·cases he
 ·rename_i o ho
  split at he
  ·cases he
  ·rename_i hw
   cases he
   exact⟨1,fun I Γ=>leads_unwanted ho hw _ _ _ _ _ I Γ⟩
  ·rename_i hw
   split at he
   ·cases he
   ·rename_i v h' hop
    cases he
    refine⟨1,fun{fn defers kind callers U ρ cs g w rest k} I Γ=>(op_step Gd F X ho hw hop tag_v I Γ).weaken fun g' w' post=>upon_next (c':=⟨⟨fn,nt,putA nt tmps o.dst v,.inRegion ops rest::k,defers,.run,kind⟩,callers,h'⟩) ?_ ho I post⟩
    simp[upon,finishA,ho]
   ·rename_i h' hop
    cases he
    refine⟨1,fun{fn defers kind callers U ρ cs g w rest k} I Γ=>(op_step Gd F X ho hw hop tag_s I Γ).weaken fun g' w' post=>upon_next (c':=⟨⟨fn,nt,putA nt tmps o.dst undefA,.inRegion ops rest::k,defers,.run,kind⟩,callers,h'⟩) ?_ ho I post⟩
    simp[upon,finishA,ho]
   ·rename_i f args h' hop
    split at he
    ·rename_i v h'' hcall
     cases he
     obtain⟨fr,N,hen,E⟩:=C _ _ _ _ hcall
     refine⟨1+(N+1),fun{fn defers kind callers U ρ cs g w rest k} I Γ=>Walk.trans (fun g' w' post=>?_) (op_step Gd F X ho hw hop tag_e I Γ)⟩
     obtain⟨ρ',A,kp,R,gr,mem,tm,frs,h1,h2,h3,hc,ng⟩:=post
     have ng':g'=_:=ng
     obtain⟨e1,e2,e3,e4,e5⟩:=enterA_ok hen (.inl rfl) mem (ρ:=ρ')
     refine Walk.trans (fun g2 w2 done=>?_) (E (plus U h.nb h'.nb) ρ' ((bB ρ' fn kind).atR (aB ρ' kind tm defers) (.inRegion ops (i::rest)::k)::(frs++cs)) g' w' ⟨e2,(fun _ x=>by simp at x),gr.ids⟩ ⟨R,_,[],e1,trivial,ng'⟩)
     obtain⟨ρ2,A2,kp2,gr2,hv,R2,ends⟩:=done
     refine(leave_step ends).weaken fun g3 w3 ⟨⟨d,hw3⟩,hg3⟩=>?_
     subst hw3 hg3
     have gr02:=gr.trans gr2
     have A02:=A.trans A2 plus_sub
     have hd2:∀d∈defers,d.In (plus U h.nb h'.nb):=fun x hx=>(I.cur.defers x hx).mono plus_sub
     have hc2:=callers_agree A2 hc fun fr hf=>(I.callers fr hf).mono plus_sub
     have hv':v.In (plus U h.nb h''.nb):=AV.In.mono (fun n=>(plus_plus gr.nb gr2.nb n).1) _ hv
     have:=next_put (U:=U) (ρ:=ρ) (h:=h) (cs:=cs) (fn:=fn) (kind:=kind) (ops:=ops) (rest:=rest) (k:=k) (dst:=o.dst) (ds:=defers) A02 ((kp.trans kp2).trans (keeps_drawn _ w2 d)) (R2.drawn d) gr02 hv' I.cur.tmps (fun x hx=>(I.cur.defers x hx).mono plus_sub) (fun fr hf=>(I.callers fr hf).mono plus_sub)
      (h1.agree A2 (TT.In.mono plus_sub I.cur.tmps)) h2 h3 hc2
     rw[finR _ _ ho,<-bB_agree A2 fn kind,<-aB_agree A2 kind tm hd2]
     exact this
    ·rename_i chain h'' hcall
     cases he
     obtain⟨fr,N,hen,E⟩:=C _ _ _ _ hcall
     refine⟨1+(N+1),fun{fn defers kind callers U ρ cs g w rest k} I Γ=>Walk.trans (fun g' w' post=>?_) (op_step Gd F X ho hw hop tag_e I Γ)⟩
     obtain⟨ρ',A,kp,R,gr,mem,tm,frs,h1,h2,h3,hc,ng⟩:=post
     have ng':g'=_:=ng
     obtain⟨e1,e2,e3,e4,e5⟩:=enterA_ok hen (.inl rfl) mem (ρ:=ρ')
     refine Walk.trans (fun g2 w2 done=>?_) (E (plus U h.nb h'.nb) ρ' ((bB ρ' fn kind).atR (aB ρ' kind tm defers) (.inRegion ops (i::rest)::k)::(frs++cs)) g' w' ⟨e2,(fun _ x=>by simp at x),gr.ids⟩ ⟨R,_,[],e1,trivial,ng'⟩)
     obtain⟨ρ2,A2,kp2,gr2,hv,R2,ends⟩:=done
     refine(raise_step ends).weaken fun g3 w3 ⟨⟨d,hw3⟩,hg3⟩=>?_
     subst hw3 hg3
     intro td
     have gr02:=gr.trans gr2
     have A02:=A.trans A2 plus_sub
     have hd2:∀d∈defers,d.In (plus U h.nb h'.nb):=fun x hx=>(I.cur.defers x hx).mono plus_sub
     have hc2:=callers_agree A2 hc fun fr hf=>(I.callers fr hf).mono plus_sub
     have hv':∀x∈chain,x.1.In (plus U h.nb h''.nb):=fun x hx=>AV.In.mono (fun n=>(plus_plus gr.nb gr2.nb n).1) _ (hv x hx)
     refine⟨ρ2,A02,(kp.trans kp2).trans (keeps_drawn _ w2 d),gr02,⟨⟨TT.In.mono plus_sub I.cur.tmps,fun x hx=>(I.cur.defers x hx).mono plus_sub,hv'⟩,fun fr hf=>(I.callers fr hf).mono plus_sub,gr02.ids⟩,R2.drawn d,_,frs,
      ⟨tm,.inRegion ops (i::rest)::k,⟨h1.agree A2 (TT.In.mono plus_sub I.cur.tmps),h2,(fun x=>by cases x),h3⟩,rfl⟩,hc2,?_⟩
     rw[<-bB_agree A2 fn kind,<-aB_agree A2 kind tm hd2];rfl
    ·cases he
   ·rename_i v h' hop
    cases he
    refine⟨1,fun{fn defers kind callers U ρ cs g w rest k} I Γ=>(op_step Gd F X ho hw hop tag_p I Γ).weaken fun g' w' post=>?_⟩
    intro td
    have:=upon_next (c':=⟨⟨fn,nt,tmps,.inRegion ops (i::rest)::k,defers,.panicking [(v,false)],kind⟩,callers,h'⟩) rfl ho I post
    obtain⟨ρ',a1,a2,a3,a4,R,fr,frs,⟨tm,td',is,rfl⟩,hc,rfl⟩:=this
    exact⟨ρ',a1,a2,a3,⟨⟨a4.cur.tmps,a4.cur.defers,a4.cur.mode⟩,a4.callers,a4.ids⟩,R,_,frs,⟨tm,td',⟨is.tmps,is.kind,(fun x=>by cases x),is.fn⟩,rfl⟩,hc,rfl⟩
   ·cases he
end
def Sched(ops:Array Oper):List Nat->List Nat->Prop
 |s,[]=>readyIn ops s=[]
 |s,i::l=>i∈readyIn ops s∧Sched ops (i::s) l
def openIn(ops:Array Oper)(s:List Nat):List Nat:=(List.range ops.size).filter fun i=>!s.contains i
theorem openIn_cons{ops:Array Oper}{s:List Nat}{i:Nat}(hi:i∈openIn ops s):(openIn ops (i::s)).length<(openIn ops s).length:=by
 have:openIn ops (i::s)=(openIn ops s).filter fun j=>!(j==i):=by
  unfold openIn
  rw[List.filter_filter]
  apply List.filter_congr
  intro j _
  by_cases hj:j=i<;>simp[List.contains_cons,hj]
 rw[this]
 exact List.length_filter_lt_length_iff_exists.2 ⟨i,hi,by simp⟩
theorem readyIn_sub{ops:Array Oper}{s:List Nat}{i:Nat}(h:i∈readyIn ops s):i∈openIn ops s:=by
 unfold readyIn at h
 obtain⟨h1,h2⟩:=List.mem_filter.1 h
 exact List.mem_filter.2 ⟨h1,by simp only[Bool.and_eq_true]at h2;exact h2.1⟩
theorem readyIn_mem{ops:Array Oper}{s:List Nat}{i:Nat}(h:i∈readyIn ops s):i<ops.size∧i∉s:=by
 obtain⟨h1,h2⟩:=List.mem_filter.1 (readyIn_sub h)
 exact⟨List.mem_range.1 h1,by simpa using h2⟩
theorem go_sched(ops:Array Oper):∀(fuel t:Nat) (listed:Array Bool) (acc s:List Nat),listed.size=ops.size->(∀j,listed.getD j false=s.contains j)->(openIn ops s).length≤fuel->
  ∃l,Region.linearise.go .any ops fuel t listed acc=acc.reverse++l∧Sched ops s l:=by
 intro fuel
 induction fuel with
 |zero=>
  intro t listed acc s _ _ ho
  refine⟨[],by simp[Region.linearise.go],?_⟩
  show readyIn ops s=[]
  apply List.eq_nil_iff_forall_not_mem.2
  intro i hi
  have:=readyIn_sub hi
  rw[List.eq_nil_of_length_eq_zero (Nat.le_zero.1 ho)]at this
  cases this
 |succ fuel ih=>
  intro t listed acc s hsz hl ho
  have hrs:((List.range ops.size).filter fun i=>!listed.getD i true&&((ops[i]?).map (fun o=>o.after.all fun e=>!Region.binds .any e||listed.getD e.on false)).getD false)=readyIn ops s:=by
   unfold readyIn
   apply List.filter_congr
   intro i hi
   have hi':i<ops.size:=List.mem_range.1 hi
   have h1:listed.getD i true=listed.getD i false:=by
    rw[Array.getD_eq_getD_getElem?,Array.getD_eq_getD_getElem?,Array.getElem?_eq_getElem (by rw[hsz];exact hi')];rfl
   rw[h1,hl i,Array.getElem?_eq_getElem hi']
   simp only[Option.map_some,Option.getD_some,boundIn]
   congr 1
   congr 1
   funext e
   rw[hl e.on]
  rw[Region.linearise.go]
  simp only[hrs]
  split
  ·rename_i i hi
   have hmem:i∈readyIn ops s:=List.mem_of_getElem? hi
   obtain⟨hi1,hi2⟩:=readyIn_mem hmem
   have hl':∀j,(listed.setIfInBounds i true).getD j false=(i::s).contains j:=fun j=>by
    rw[Array.getD_eq_getD_getElem?,List.contains_cons]
    by_cases hj:j=i
    ·subst hj;simp[hsz,hi1]
    ·have:(j==i)=false:=by simpa using hj
     rw[this,Bool.false_or,<-hl j,Array.getD_eq_getD_getElem?,Array.getElem?_setIfInBounds_ne (fun x=>hj x.symm)]
   obtain⟨l,e,hs⟩:=ih (t / (readyIn ops s).length) (listed.setIfInBounds i true) (i::acc) (i::s) (by simpa using hsz) hl' (by have:=openIn_cons (readyIn_sub hmem);omega)
   exact⟨i::l,by rw[e];simp,hmem,hs⟩
  ·rename_i hn
   refine⟨[],by simp,?_⟩
   show readyIn ops s=[]
   rcases Nat.eq_zero_or_pos (readyIn ops s).length with h0|h0
   ·exact List.eq_nil_of_length_eq_zero h0
   ·rw[List.getElem?_eq_none_iff]at hn
    have:=Nat.mod_lt t h0
    omega
theorem schedule_sched(ops:Array Oper)(t:Nat):Sched ops [] (Region.schedule true ops t):=by
 obtain⟨l,e,h⟩:=go_sched ops ops.size t (Array.replicate ops.size false) [] [] (by simp) (fun j=>by
  rw[Array.getD_eq_getD_getElem?,Array.getElem?_replicate];split<;>simp) (by
  unfold openIn;exact Nat.le_trans (List.length_filter_le _ _) (by simp))
 have:Region.schedule true ops t=l:=by simp[Region.schedule,Region.linearise,e]
 rw[this];exact h
theorem sameSet_mem{a b:List Nat}(h:sameSet a b=true)(i:Nat):i∈a↔i∈b:=by
 unfold sameSet at h
 simp only[Bool.and_eq_true,List.all_eq_true,List.contains_iff_mem]at h
 exact⟨h.1 i,h.2 i⟩
theorem contains_congr{a b:List Nat}(h:∀i,i∈a↔i∈b)(i:Nat):a.contains i=b.contains i:=by
 have:=h i
 by_cases hi:i∈a
 ·simp[hi,this.1 hi]
 ·have:i∉b:=fun x=>hi (this.2 x)
  simp[hi,this]
theorem readyIn_congr{ops:Array Oper}{a b:List Nat}(h:∀i,i∈a↔i∈b):readyIn ops a=readyIn ops b:=by
 unfold readyIn
 apply List.filter_congr
 intro i _
 rw[contains_congr h]
 congr 1
 split
 ·unfold boundIn
  congr 1
  funext e
  rw[contains_congr h]
 ·rfl
theorem Sched.congr{ops:Array Oper}:∀{l a b:List Nat},(∀i,i∈a↔i∈b)->Sched ops a l->Sched ops b l
 |[],a,b,h,hs=>by
  have:readyIn ops a=[]:=hs
  show readyIn ops b=[]
  rw[<-readyIn_congr h];exact this
 |i::l,a,b,h,hs=>⟨by rw[<-readyIn_congr h];exact hs.1,Sched.congr (fun j=>by simp[h j]) hs.2⟩
def Us(U0:Nat->Prop)(h0:AH)(s:List Nat):Nat->Prop:=fun n=>U0 n∨∃j∈s,h0.nb+j*stride h0≤n∧n<h0.nb+(j+1)*stride h0
theorem stride_lim(h0:AH){i:Nat}(hi:i<65536){n:Nat}(hn:n<h0.nb+(i+1)*stride h0)(hn0:h0.nb+i*stride h0≤n):n<h0.lim:=by
 have h1:(i+1)*stride h0≤65536*stride h0:=Nat.mul_le_mul_right _ hi
 have h2:65536*stride h0≤h0.lim-h0.nb:=Nat.mul_div_le _ _
 omega
theorem ranges_apart{s i j n nb:Nat}(h1:nb+i*s≤n)(h2:n<nb+(i+1)*s)(h3:nb+j*s≤n)(h4:n<nb+(j+1)*s):i=j:=by
 rcases Nat.lt_trichotomy i j with h|h|h
 ·have:=Nat.mul_le_mul_right s (Nat.succ_le_of_lt h);simp only[Nat.succ_eq_add_one]at this;omega
 ·exact h
 ·have:=Nat.mul_le_mul_right s (Nat.succ_le_of_lt h);simp only[Nat.succ_eq_add_one]at this;omega
theorem Us_fresh{K:Ctx}{U0:Nat->Prop}{h0:AH}{s:List Nat}{i:Nat}(I0:Ids K U0 h0)(hi:i<65536)(hs:i∉s){n:Nat}(h1:h0.nb+i*stride h0≤n)(h2:n<h0.nb+(i+1)*stride h0):¬Us U0 h0 s n:=by
 rintro(x|⟨j,hj,x1,x2⟩)
 ·exact I0.fresh n (by omega) (stride_lim h0 hi h2 h1) x
 ·have:=ranges_apart h1 h2 x1 x2
  subst this
  exact hs hj
theorem Rel.hp{K:Ctx}{ρ:Env}{h h':AH}{w:World}(R:Rel K ρ h w)(e:h'.hp=h.hp):Rel K ρ h' w:=
 ⟨fun i b hb=>R.blk i b (by rw[<-e];exact hb),fun i b hb=>R.own' i b (by rw[<-e];exact hb),fun i j b c h1 h2=>R.inj i j b c (by rw[<-e];exact h1) (by rw[<-e];exact h2),R.bs,R.is,R.mem,R.room,fun i b hb=>R.lent i b (by rw[<-e];exact hb),R.low⟩
theorem Gam.hp{K:Ctx}{ρ:Env}{cur:AFrame}{callers:List AFrame}{h h':AH}{cs:List Frame}{g:Goroutine}{w:World}(Γ:Gam K ρ ⟨cur,callers,h⟩ cs g w)(e:h'.hp=h.hp):Gam K ρ ⟨cur,callers,h'⟩ cs g w:=
 ⟨Rel.hp Γ.1 e,Γ.2⟩
theorem CIds.lax{K:Ctx}{U U':Nat->Prop}{cur:AFrame}{callers:List AFrame}{h h':AH}(I:CIds K U ⟨cur,callers,h⟩)(e:h'.hp=h.hp)(hs:∀n,U n->U' n)(fr:∀n,h'.nb≤n->n<h'.lim->¬U' n):CIds K U' ⟨cur,callers,h'⟩:=
 ⟨I.cur.mono hs,fun fr hf=>(I.callers fr hf).mono hs,⟨fun i b hb=>ABlk.In.mono hs (I.ids.hp i b (by rw[<-e];exact hb)),fun i hi=>hs i (I.ids.keys i (by show i∈Go.Proofs.Ytmobbajggkjpgaa.SX.keys h.hp;rw[<-e];exact hi)),(by show(Go.Proofs.Ytmobbajggkjpgaa.SX.keys h'.hp).Nodup;rw[e];exact I.ids.nodup),fr,I.ids.orc.mono hs⟩⟩
section
variable {K:Ctx}{main:Bool}{nt:Nat}{ops:Array Oper}
theorem putLvl_ok{s:List Nat}{t:TT}{h:AH}:∀{L L':Lvl},putLvl s t h L=.ok L'->(∀e∈L,e∈L')∧∃s' h',(s',t,h')∈L'∧sameSet s s'=true∧h'.hp=h.hp
 |[],L',he=>by
  simp only[putLvl]at he
  cases he
  refine⟨(fun e x=>by cases x),s,h,List.mem_singleton.2 rfl,?_,rfl⟩
  simp[sameSet]
 |(s',t',h')::L,L',he=>by
  simp only[putLvl]at he
  split at he
  ·rename_i hs
   split at he
   ·rename_i hq
    cases he
    simp only[Bool.and_eq_true]at hq
    obtain rfl:=TT.eqb_eq hq.1
    exact⟨fun e x=>x,s',h',List.mem_cons_self ..,hs,(hpEqb_eq hq.2).symm⟩
   ·cases he
  ·split at he
   ·rename_i l hl
    cases he
    obtain⟨a,s2,h2,b,c,d⟩:=putLvl_ok hl
    refine⟨fun e x=>?_,s2,h2,List.mem_cons_of_mem _ b,c,d⟩
    rcases List.mem_cons.1 x with rfl|x
    ·exact List.mem_cons_self ..
    ·exact List.mem_cons_of_mem _ (a e x)
   ·cases he
def Forks(K:Ctx)(U0:Nat->Prop)(h0:AH)(ρ:Env)(cs:List Frame)(w:World)(fn:FuncId)(nt:Nat)(ops:Array Oper)(l:List Nat)(k:List Item)(defers:List AD)(kind:CallKind)(callers:List AFrame)(s1:List Nat)(L':Lvl)(g':Goroutine)(w':World):Prop:=
 ∃s' t' h',(s',t',h')∈L'∧(∀i,i∈s1↔i∈s')∧∃ρ',Agree U0 ρ ρ'∧Keeps K.own w w'∧CIds K (Us U0 h0 s') ⟨⟨fn,nt,t',.inRegion ops l::k,defers,.run,kind⟩,callers,bare h'⟩∧
  Gam K ρ' ⟨⟨fn,nt,t',.inRegion ops l::k,defers,.run,kind⟩,callers,h'⟩ cs g' w'
theorem Forks.sub{U0:Nat->Prop}{h0:AH}{ρ:Env}{cs:List Frame}{w:World}{fn:FuncId}{l:List Nat}{k:List Item}{defers:List AD}{kind:CallKind}{callers:List AFrame}{s1:List Nat}{L L':Lvl}{g':Goroutine}{w':World}
 (hs:∀e∈L,e∈L')(F:Forks K U0 h0 ρ cs w fn nt ops l k defers kind callers s1 L g' w'):Forks K U0 h0 ρ cs w fn nt ops l k defers kind callers s1 L' g' w':=by
 obtain⟨s',t',h',a,b⟩:=F
 exact⟨s',t',h',hs _ a,b⟩
theorem stepOne_ok(Gd:K.Good)(F:K.Facts){ext:Ext}(X:ExtOk K ext){call:FuncId->List AV->AH->M (AE×AH)}(C:CallOk K main call)(hops:ops.size≤65536){h0:AH}{s:List Nat}{t:TT}{h:AH}:
  ∀{r:List Nat} {L L':Lvl},stepOne K.P K.O ext call nt ops h0 s t h r L=.ok L'->(∀e∈L,e∈L')∧
   ∃N,∀i∈r,i<ops.size->i∉s->∀{fn defers kind callers U0 ρ cs g w l k},Ids K U0 h0->CIds K (Us U0 h0 s) ⟨⟨fn,nt,t,.inRegion ops (i::l)::k,defers,.run,kind⟩,callers,bare h⟩->
    Gam K ρ ⟨⟨fn,nt,t,.inRegion ops (i::l)::k,defers,.run,kind⟩,callers,h⟩ cs g w->Walk K.P main (DK K) (Forks K U0 h0 ρ cs w fn nt ops l k defers kind callers (i::s) L') N g w
 |[],L,L',he=>by
  simp only[stepOne]at he
  cases he
  exact⟨fun e x=>x,0,fun i x=>by cases x⟩
 |i::r,L,L',he=>by
  simp only[stepOne]at he
  split at he
  ·cases he
  ·cases he
  ·rename_i t' h' hop
   split at he
   ·rename_i hlim
    split at he
    ·rename_i L1 hput
     obtain⟨a1,s',hh,a2,a3,a4⟩:=putLvl_ok hput
     obtain⟨b1,N,b2⟩:=stepOne_ok Gd F X C hops he
     obtain⟨M,hM⟩:=opFull_ok Gd F X C hop
     refine⟨fun e x=>b1 e (a1 e x),N+M,fun j hj hj1 hj2 {fn defers kind callers U0 ρ cs g w l k} I0 I Γ=>?_⟩
     rcases List.mem_cons.1 hj with rfl|hj
     ·have I':CIds K (Us U0 h0 s) ⟨⟨fn,nt,t,.inRegion ops (j::l)::k,defers,.run,kind⟩,callers,rangeFor h0 j h⟩:=
       I.lax rfl (fun n x=>x) fun n x1 x2=>Us_fresh I0 (by omega) hj2 x1 x2
      refine((hM I' (Γ.hp rfl)).weaken fun g' w' nx=>?_).mono (Nat.le_add_left _ _)
      obtain⟨ρ',c1,c2,c3,c4,c5⟩:=nx
      refine⟨s',t',hh,b1 _ a2,sameSet_mem a3,ρ',c1.mono (fun n x=>.inl x),c2,?_,c5.hp a4⟩
      refine c4.lax a4 (fun n x=>?_) fun n x1 x2=>by simp[bare]at x2
      rcases x with(x|⟨q,q1,q2⟩)|x
      ·exact .inl x
      ·exact .inr ⟨q,(sameSet_mem a3 q).1 (List.mem_cons_of_mem _ q1),q2⟩
      ·have hl:h'.lim=(rangeFor h0 j h).lim:=c3.lim
       refine .inr ⟨j,(sameSet_mem a3 j).1 (List.mem_cons_self ..),x.1,?_⟩
       have hl2:h'.lim=h0.nb+(j+1)*stride h0:=hl
       have hx:=x.2
       dsimp only at hx
       omega
     ·exact(b2 j hj hj1 hj2 I0 I Γ).mono (Nat.le_add_right _ _)
    ·cases he
   ·cases he
theorem stepLvl_ok(Gd:K.Good)(F:K.Facts){ext:Ext}(X:ExtOk K ext){call:FuncId->List AV->AH->M (AE×AH)}(C:CallOk K main call)(hops:ops.size≤65536){h0:AH}:
  ∀{A L L':Lvl},stepLvl K.P K.O ext call nt ops h0 A L=.ok L'->(∀e∈L,e∈L')∧
   ∃N,∀s t h,(s,t,h)∈A->readyIn ops s≠[]∧∀i∈readyIn ops s,∀{fn defers kind callers U0 ρ cs g w l k},Ids K U0 h0->CIds K (Us U0 h0 s) ⟨⟨fn,nt,t,.inRegion ops (i::l)::k,defers,.run,kind⟩,callers,bare h⟩->
    Gam K ρ ⟨⟨fn,nt,t,.inRegion ops (i::l)::k,defers,.run,kind⟩,callers,h⟩ cs g w->Walk K.P main (DK K) (Forks K U0 h0 ρ cs w fn nt ops l k defers kind callers (i::s) L') N g w
 |[],L,L',he=>by
  simp only[stepLvl]at he
  cases he
  exact⟨fun e x=>x,0,fun s t h x=>by cases x⟩
 |(s,t,h)::A,L,L',he=>by
  simp only[stepLvl]at he
  split at he
  ·cases he
  ·rename_i hne
   split at he
   ·rename_i L1 h1
    obtain⟨a1,N,a2⟩:=stepOne_ok Gd F X C hops h1
    obtain⟨b1,M,b2⟩:=stepLvl_ok Gd F X C hops he
    refine⟨fun e x=>b1 e (a1 e x),N+M,fun s' t' h' hm=>?_⟩
    rcases List.mem_cons.1 hm with hq|hm
    ·cases hq
     refine⟨fun x=>hne (by simp[x]),fun i hi {fn defers kind callers U0 ρ cs g w l k} I0 I Γ=>?_⟩
     obtain⟨x1,x2⟩:=readyIn_mem hi
     exact((a2 i hi x1 x2 I0 I Γ).weaken fun g' w' f=>f.sub b1).mono (Nat.le_add_right _ _)
    ·obtain⟨c1,c2⟩:=b2 s' t' h' hm
     exact⟨c1,fun i hi {fn defers kind callers U0 ρ cs g w l k} I0 I Γ=>(c2 i hi I0 I Γ).mono (Nat.le_add_left _ _)⟩
   ·cases he
end
theorem inM_testBit(m i:Nat):inM m i=m.testBit i:=by
 unfold inM bitOf
 have h:Nat.land m (Nat.pow 2 i)=m&&& 2 ^ i:=rfl
 rw[h]
 cases hb:m.testBit i with
 |true=>
  have:m&&& 2 ^ i≠0:=fun e=>by
   have:=congrArg (fun x=>Nat.testBit x i) e
   simp[Nat.testBit_and,hb,Nat.testBit_two_pow_self]at this
  cases hq:Nat.beq (m&&& 2 ^ i) 0 with
  |true=>exact absurd (Nat.eq_of_beq_eq_true hq) this
  |false=>rfl
 |false=>
  have:m&&& 2 ^ i=0:=by
   apply Nat.eq_of_testBit_eq
   intro j
   rw[Nat.testBit_and,Nat.zero_testBit]
   by_cases e:i=j
   ·subst e;simp[hb]
   ·simp[Nat.testBit_two_pow,e]
  rw[this];rfl
theorem inM_add(m i j:Nat):inM (addM m i) j=(inM m j||decide (i=j)):=by
 rw[inM_testBit,inM_testBit]
 have:addM m i=m ||| 2 ^ i:=rfl
 rw[this,Nat.testBit_or,Nat.testBit_two_pow]
theorem inM_zero(i:Nat):inM 0 i=false:=by rw[inM_testBit];simp
theorem land_sub{a m:Nat}(h:Nat.beq (Nat.land a m) a=true){j:Nat}(hj:inM a j=true):inM m j=true:=by
 have e:a&&& m=a:=Nat.eq_of_beq_eq_true h
 rw[inM_testBit]at hj⊢
 have:=congrArg (fun x=>Nat.testBit x j) e
 simp only[Nat.testBit_and,hj,Bool.true_and]at this
 exact this
theorem sub_land{a m:Nat}(h:∀j,inM a j=true->inM m j=true):Nat.beq (Nat.land a m) a=true:=by
 have:a&&& m=a:=by
  apply Nat.eq_of_testBit_eq
  intro j
  rw[Nat.testBit_and]
  have:=h j
  rw[inM_testBit,inM_testBit]at this
  cases ha:a.testBit j with
  |false=>rfl
  |true=>rw[this ha];rfl
 have h2:Nat.land a m=a:=this
 rw[h2]
 exact Nat.beq_refl a
theorem inM_pred{l:List Edge}{j:Nat}:inM (predMask l) j=true↔∃e∈l,Region.binds .any e=true∧e.on=j:=by
 induction l with
 |nil=>simp[predMask,inM_zero]
 |cons e l ih=>
  unfold predMask
  cases hb:Region.binds .any e with
  |true=>
   simp only[inM_add,Bool.or_eq_true,ih,decide_eq_true_eq,List.mem_cons]
   constructor
   ·rintro(⟨x,hx,a,b⟩|h)
    ·exact⟨x,.inr hx,a,b⟩
    ·exact⟨e,.inl rfl,hb,h⟩
   ·rintro⟨x,rfl|hx,a,b⟩
    ·exact .inr b
    ·exact .inl ⟨x,hx,a,b⟩
  |false=>
   simp only[ih,List.mem_cons]
   constructor
   ·rintro⟨x,hx,a,b⟩;exact⟨x,.inr hx,a,b⟩
   ·rintro⟨x,rfl|hx,a,b⟩
    ·rw[hb]at a;cases a
    ·exact⟨x,hx,a,b⟩
theorem mem_infosFrom{l:List Oper}:∀{n:Nat} {x:Info},x∈infosFrom n l↔∃i o,l[i]?=some o∧x=(n+i,o,predMask o.after.toList,quietOp o):=by
 induction l with
 |nil=>intro n x;simp[infosFrom]
 |cons o l ih=>
  intro n x
  simp only[infosFrom,List.mem_cons,ih]
  constructor
  ·rintro(rfl|⟨i,o',h,rfl⟩)
   ·exact⟨0,o,rfl,rfl⟩
   ·exact⟨i+1,o',by simpa using h,by rw[show n+1+i=n+(i+1) by omega]⟩
  ·rintro⟨i,o',h,rfl⟩
   cases i with
   |zero=>simp at h;subst h;exact .inl rfl
   |succ i=>exact .inr ⟨i,o',by simpa using h,by rw[show n+1+i=n+(i+1) by omega]⟩
theorem mem_infos{ops:Array Oper}{x:Info}:x∈infosOf ops↔∃i o,ops[i]?=some o∧x=(i,o,predMask o.after.toList,quietOp o):=by
 unfold infosOf
 rw[mem_infosFrom]
 simp
def Cons(s:List Nat)(m:Nat):Prop:=∀i,inM m i=true↔i∈s
theorem Cons.add{s:List Nat}{m i:Nat}(h:Cons s m):Cons (i::s) (addM m i):=fun j=>by
 rw[inM_add,Bool.or_eq_true,h j,decide_eq_true_eq,List.mem_cons]
 constructor
 ·rintro(x|x)
  ·exact .inr x
  ·exact .inl x.symm
 ·rintro(x|x)
  ·exact .inr x.symm
  ·exact .inl x
theorem cons_nil:Cons [] 0:=fun i=>by simp[inM_zero]
theorem ready_iff{ops:Array Oper}{s:List Nat}{i:Nat}:i∈readyIn ops s↔i∉s∧∃o,ops[i]?=some o∧∀e∈o.after.toList,Region.binds .any e=true->e.on∈s:=by
 unfold readyIn
 rw[List.mem_filter]
 constructor
 ·rintro⟨h1,h2⟩
  simp only[Bool.and_eq_true,Bool.not_eq_true',List.contains_eq_mem,decide_eq_false_iff_not]at h2
  refine⟨h2.1,?_⟩
  have h3:=h2.2
  split at h3
  ·rename_i o ho
   refine⟨o,ho,fun e he hb=>?_⟩
   unfold boundIn at h3
   rw[<-Array.all_toList,List.all_eq_true]at h3
   have:=h3 e he
   simpa[hb] using this
  ·cases h3
 ·rintro⟨h1,o,ho,h2⟩
  refine⟨List.mem_range.2 (Array.getElem?_eq_some_iff.1 ho).1,?_⟩
  simp only[Bool.and_eq_true,Bool.not_eq_true',List.contains_eq_mem,decide_eq_false_iff_not]
  refine⟨h1,?_⟩
  rw[ho]
  show boundIn s o=true
  unfold boundIn
  rw[<-Array.all_toList,List.all_eq_true]
  intro e he
  cases hb:Region.binds .any e with
  |false=>rfl
  |true=>simpa using h2 e he hb
theorem can_iff{ops:Array Oper}{s:List Nat}{m:Nat}(c:Cons s m){i:Nat}{o:Oper}(ho:ops[i]?=some o):canM m (i,o,predMask o.after.toList,quietOp o)=true↔i∈readyIn ops s:=by
 rw[ready_iff]
 unfold canM
 simp only[Bool.and_eq_true,Bool.not_eq_true']
 constructor
 ·rintro⟨h1,h2⟩
  refine⟨fun hi=>?_,o,ho,fun e he hb=>(c _).1 (land_sub h2 (inM_pred.2 ⟨e,he,hb,rfl⟩))⟩
  rw[(c i).2 hi]at h1;cases h1
 ·rintro⟨h1,o',ho',h2⟩
  rw[ho]at ho';cases ho'
  refine⟨?_,sub_land fun j hj=>?_⟩
  ·cases hq:inM m i with
   |false=>rfl
   |true=>exact absurd ((c i).1 hq) h1
  ·obtain⟨e,he,hb,rfl⟩:=inM_pred.1 hj
   exact(c _).2 (h2 e he hb)
theorem op?_congr{P:Program}{O:Orc}{ext:Ext}{h:AH}{f g:Operand->AV}{o:Oper}(e:∀x∈o.op.operands.toList,f x=g x):op? P O ext h f o=op? P O ext h g o:=by
 have hc:∀(c:Call),(∀x∈c.operands.toList,f x=g x)->∀ty,resolve? f c ty=resolve? g c ty:=by
  intro c hc ty
  have hargs:c.args.toList.map f=c.args.toList.map g:=List.map_congr_left fun x hx=>hc x (by
   unfold Call.operands
   simp only[Array.toList_append,List.mem_append]
   exact .inr hx)
  unfold resolve?
  rw[hargs]
  split
  ·rfl
  ·rename_i recv name hcal
   have:f recv=g recv:=hc recv (by unfold Call.operands;rw[hcal];simp)
   rw[this]
  ·rename_i fx hcal
   have:f fx=g fx:=hc fx (by unfold Call.operands;rw[hcal];simp)
   rw[this]
 have hparts:∀(ps:Array (Nat×Operand)),(∀x∈(ps.toList.map (·.2)),f x=g x)->ps.toList.map (fun(i,x)=>(i,f x))=ps.toList.map (fun(i,x)=>(i,g x)):=fun ps hp=>
  List.map_congr_left fun x hx=>by
   have:f x.2=g x.2:=hp x.2 (List.mem_map.2 ⟨x,hx,rfl⟩)
   show(x.1,f x.2)=(x.1,g x.2)
   rw[this]
 unfold op?
 generalize hop:o.op=op at e
 cases op<;>simp only[Op.operands,List.mem_cons,List.not_mem_nil,or_false,forall_eq_or_imp,forall_eq,List.toList_toArray,Array.toList_append,List.mem_append]at e<;>dsimp only
 case pick c a b=>rw[e.1,e.2.1,e.2.2]
 case build t ps=>rw[hparts ps e]
 case buildSlice t n ps=>rw[hparts ps e]
 case makeFunc fn fs cs=>
  rw[List.map_congr_left (f:=f) (g:=g) fun x hx=>e x (.inl hx),List.map_congr_left (f:=f) (g:=g) fun x hx=>e x (.inr hx)]
 case slice t x l hh mx=>
  have hx:f x=g x:=e x (by simp)
  have ho:∀(y:Option Operand),(∀z,y=some z->f z=g z)->(y.map fun x=>normI O (f x))=y.map fun x=>normI O (g x):=fun y hy=>by
   cases y with
   |none=>rfl
   |some z=>simp[hy z rfl]
  rw[hx,ho l fun z hz=>e z (by subst hz;simp),ho hh fun z hz=>e z (by subst hz;simp),ho mx fun z hz=>e z (by subst hz;simp)]
 case makeMap t r=>
  have:r.map f=r.map g:=by
   cases r with
   |none=>rfl
   |some z=>simp[e z (by simp)]
  rw[this]
 case call c=>rw[hc c e]
 case defer c=>rw[hc c e]
 case unOp u t x=>cases u<;>dsimp only<;>simp only[e]
 all_goals first
  |rfl
  |(simp only[e];done)
  |(simp only[e.1,e.2];done)
theorem valOp_same{r:M AV}{h h':AH}{n:AN}(he:valOp r h=.ok (n,h')):h'=h:=by
 unfold valOp at he
 split at he
 ·cases he;rfl
 ·cases he
theorem quiet_same{P:Program}{O:Orc}{ext:Ext}{h h':AH}{f:Operand->AV}{o:Oper}{n:AN}(hq:quietOp o=true)(he:op? P O ext h f o=.ok (n,h')):h'=h:=by
 unfold quietOp at hq
 unfold op? at he
 generalize o.op=op at hq he
 cases op<;>simp at hq<;>dsimp only at he
 case unOp u t x=>
  cases u<;>dsimp only at he<;>(repeat' split at he)<;>first|(cases he;rfl)|cases he
 all_goals first
  |exact valOp_same he
  |(cases he;rfl)
  |((repeat' split at he)<;>first|exact valOp_same he|(cases he;rfl)|cases he)
def Alike(ops:Array Oper)(o:Oper)(t t':TT):Prop:=∀d∈o.looksAt ops,t'.get d=t.get d
theorem Alike.eval{ops:Array Oper}{o:Oper}{t t':TT}(h:Alike ops o t t'):∀x∈o.op.operands.toList,evalA t' x=evalA t x:=by
 intro x hx
 cases x with
 |tmp d=>exact h d (List.mem_append_left _ (List.mem_filterMap.2 ⟨.tmp d,hx,rfl⟩))
 |_=>rfl
theorem Alike.wanted{O:Orc}{ops:Array Oper}{o:Oper}{t t':TT}(h:Alike ops o t t'):wantedA O ops t' o=wantedA O ops t o:=by
 unfold wantedA
 cases hg:o.guard with
 |none=>rfl
 |some gw=>
  obtain⟨j,want⟩:=gw
  dsimp only
  have:yieldedA O ops t' j=yieldedA O ops t j:=by
   unfold yieldedA
   cases hd:(ops[j]?).bind (·.dst)with
   |none=>rfl
   |some d=>
    dsimp only
    rw[h d (List.mem_append_right _ (by rw[hg];simp[hd]))]
  rw[this]
theorem opFull_alike{P:Program}{O:Orc}{ext:Ext}{call:FuncId->List AV->AH->M (AE×AH)}{nt:Nat}{ops:Array Oper}{i:Nat}{o:Oper}{t t' t1:TT}{h h1:AH}(ho:ops[i]?=some o)(ha:Alike ops o t t')
 (he:opFull P O ext call nt ops i t h=.ok (.on t1 h1)):∃v,t1=putA nt t o.dst v∧opFull P O ext call nt ops i t' h=.ok (.on (putA nt t' o.dst v) h1):=by
 unfold opFull at he⊢
 rw[ho]at he⊢
 dsimp only at he⊢
 rw[ha.wanted,op?_congr ha.eval]
 split at he
 ·cases he
 ·rename_i hw;cases he;exact⟨_,rfl,rfl⟩
 ·rename_i hw
  split at he
  ·cases he
  ·rename_i v h' hop;cases he;exact⟨v,rfl,rfl⟩
  ·rename_i h' hop;cases he;exact⟨undefA,rfl,rfl⟩
  ·rename_i f args h' hop
   split at he
   ·rename_i v h'' hc;cases he;exact⟨v,rfl,rfl⟩
   ·cases he
   ·cases he
  ·cases he
  ·cases he
theorem opFull_quiet{P:Program}{O:Orc}{ext:Ext}{call:FuncId->List AV->AH->M (AE×AH)}{nt:Nat}{ops:Array Oper}{i:Nat}{o:Oper}{t:TT}{h:AH}(ho:ops[i]?=some o)(hq:quietOp o=true){v:AV}
 (he:wantedA O ops t o=.ok false∧v=undefA∨wantedA O ops t o=.ok true∧∃h',op? P O ext h (evalA t) o=.ok (.value v,h')):opFull P O ext call nt ops i t h=.ok (.on (putA nt t o.dst v) h):=by
 unfold opFull
 rw[ho]
 dsimp only
 rcases he with⟨hw,rfl⟩|⟨hw,h',hop⟩
 ·rw[hw]
 ·rw[hw]
  dsimp only
  have:=quiet_same hq hop
  subst this
  rw[hop]
theorem putA_get{nt:Nat}(hnt:nt≤60000)(t:TT)(dst:Option Tmp)(v:AV)(n:Nat):(putA nt t dst v).get n=if dst=some n∧n<nt then v else t.get n:=by
 unfold putA
 cases dst with
 |none=>simp
 |some d=>
  dsimp only
  cases hb:Nat.ble (d+1) nt with
  |true=>
   have hd:Nat.succ d≤nt:=Nat.le_of_ble_eq_true hb
   have hb16:Nat.succ d<2 ^ 16:=Nat.lt_of_le_of_lt (Nat.le_trans hd hnt) (by decide)
   dsimp only
   rw[TT.get_set v 16 t d n hb16]
   by_cases e:n=d
   ·subst e;rw[if_pos rfl,if_pos ⟨rfl,hd⟩]
   ·rw[if_neg e,if_neg fun x=>e (Option.some.inj x.1).symm]
  |false=>
   dsimp only
   rw[if_neg]
   rintro⟨e,hn⟩
   obtain rfl:=Option.some.inj e
   have h2:Nat.ble (d+1) nt=true:=Nat.ble_eq_true_of_le (Nat.succ_le_of_lt hn)
   rw[h2]at hb;cases hb
def Pending(ops:Array Oper)(s r:List Nat)(n:Nat):Prop:=∃i o,i∈s∧i∉r∧ops[i]?=some o∧o.dst=some n
def Down(ops:Array Oper)(r:List Nat):Prop:=∀i∈r,∀o,ops[i]?=some o->∀e∈o.after.toList,Region.binds .any e=true->e.on∈r
theorem Down.cons{ops:Array Oper}{r:List Nat}(d:Down ops r){i:Nat}(h:i∈readyIn ops r):Down ops (i::r):=by
 obtain⟨_,o,ho,hp⟩:=ready_iff.1 h
 intro j hj oj hoj e he hb
 rcases List.mem_cons.1 hj with rfl|hj
 ·rw[ho]at hoj;cases hoj
  exact List.mem_cons_of_mem _ (hp e he hb)
 ·exact List.mem_cons_of_mem _ (d j hj oj hoj e he hb)
structure Near(ops:Array Oper)(nt:Nat)(s r:List Nat)(t tr:TT):Prop where
 sub:∀i∈r,i∈s
 quiet:∀i∈s,i∉r->∃o,ops[i]?=some o∧quietOp o=true
 same:∀n,n<nt->¬Pending ops s r n->tr.get n=t.get n
 out:∀n,nt≤n->tr.get n=t.get n
 down:Down ops r
theorem inM_lor(a b j:Nat):inM (Nat.lor a b) j=(inM a j||inM b j):=by
 rw[inM_testBit,inM_testBit,inM_testBit]
 exact Nat.testBit_or a b j
theorem doneM_ok{m i:Nat}:∀{l:List Info},inM (doneM m l) i=true->∃x∈l,x.2.2.2=false∧inM m x.1=true∧inM x.2.2.1 i=true
 |[],h=>by simp[doneM,inM_zero]at h
 |x::l,h=>by
  simp only[doneM]at h
  split at h
  ·rename_i hb
   simp only[Bool.and_eq_true,Bool.not_eq_true']at hb
   rw[inM_lor,Bool.or_eq_true]at h
   rcases h with h|h
   ·exact⟨x,List.mem_cons_self ..,hb.1,hb.2,h⟩
   ·obtain⟨y,hy,z⟩:=doneM_ok h
    exact⟨y,List.mem_cons_of_mem _ hy,z⟩
  ·obtain⟨y,hy,z⟩:=doneM_ok h
   exact⟨y,List.mem_cons_of_mem _ hy,z⟩
theorem inM_rem{infos:List Info}{m i:Nat}(h1:inM m i=true)(h2:inM (doneM m infos) i=false):inM (remM infos m) i=true:=by
 unfold remM
 rw[inM_testBit]at h1 h2⊢
 show(m&&& (m ^^^ doneM m infos)).testBit i=true
 rw[Nat.testBit_and,Nat.testBit_xor,h1,h2]
 rfl
theorem Near.rem{ops:Array Oper}{nt:Nat}{s r:List Nat}{t tr:TT}(N:Near ops nt s r t tr){m:Nat}(hc:Cons s m){i:Nat}(hi:i∈s)(hr:i∉r):inM (remM (infosOf ops) m) i=true:=by
 refine inM_rem ((hc i).2 hi) ?_
 cases hd:inM (doneM m (infosOf ops)) i with
 |false=>rfl
 |true=>
  obtain⟨x,hx,h1,h2,h3⟩:=doneM_ok hd
  obtain⟨j,o,ho,rfl⟩:=mem_infos.1 hx
  dsimp only at h1 h2 h3
  have hj:j∈s:=(hc j).1 h2
  by_cases hjr:j∈r
  ·obtain⟨e,he,hb,rfl⟩:=inM_pred.1 h3
   exact absurd (N.down j hjr o ho e he hb) hr
  ·obtain⟨o',ho',hq⟩:=N.quiet j hj hjr
   rw[ho]at ho';cases ho'
   rw[hq]at h1;cases h1
def Topo(ops:Array Oper):List Nat->Prop
 |[]=>True
 |i::s=>i∈readyIn ops s∧Topo ops s
theorem Topo.ready{ops:Array Oper}{r:List Nat}:∀{s:List Nat},Topo ops s->(∃i∈s,i∉r)->∃i∈s,i∈readyIn ops r
 |[],_,⟨i,h,_⟩=>by cases h
 |a::s,⟨h1,h2⟩,hx=>by
  by_cases hs:∃i∈s,i∉r
  ·obtain⟨i,hi,hr⟩:=Topo.ready h2 hs
   exact⟨i,List.mem_cons_of_mem _ hi,hr⟩
  ·have hall:∀i∈s,i∈r:=fun i hi=>Classical.byContradiction fun hn=>hs ⟨i,hi,hn⟩
   obtain⟨i,hi,hn⟩:=hx
   rcases List.mem_cons.1 hi with rfl|hi
   ·obtain⟨_,o,ho,hp⟩:=ready_iff.1 h1
    exact⟨i,List.mem_cons_self ..,ready_iff.2 ⟨hn,o,ho,fun e he hb=>hall _ (hp e he hb)⟩⟩
   ·exact absurd (hall i hi) hn
theorem Topo.lt{ops:Array Oper}:∀{s:List Nat},Topo ops s->∀i∈s,i<ops.size
 |[],_,i,h=>by cases h
 |a::s,⟨h1,h2⟩,i,h=>by
  rcases List.mem_cons.1 h with rfl|h
  ·exact(readyIn_mem h1).1
  ·exact Topo.lt h2 i h
theorem regionOk_spec{ops:Array Oper}(h:regionOk ops (infosOf ops)=true){i j d:Nat}{oi oj:Oper}(hi:ops[i]?=some oi)(hj:ops[j]?=some oj)(hq:quietOp oi=true)(hd:oi.dst=some d)(hl:d∈oj.looksAt ops):
  ∃e∈oj.after.toList,Region.binds .any e=true∧e.on=i:=by
 unfold regionOk at h
 rw[List.all_eq_true]at h
 have h1:=h _ (mem_infos.2 ⟨i,oi,hi,rfl⟩)
 dsimp only at h1
 rw[hq,hd]at h1
 dsimp only at h1
 rw[List.all_eq_true]at h1
 have h2:=h1 _ (mem_infos.2 ⟨j,oj,hj,rfl⟩)
 dsimp only at h2
 have hc:(oj.looksAt ops).contains d=true:=by simpa using hl
 rw[hc]at h2
 simp only[Bool.not_true,Bool.false_or]at h2
 exact inM_pred.1 h2
theorem Near.alike{ops:Array Oper}{nt:Nat}{s r:List Nat}{t tr:TT}(N:Near ops nt s r t tr)(hok:regionOk ops (infosOf ops)=true){j:Nat}{oj:Oper}(hj:ops[j]?=some oj)(hr:j∈readyIn ops r):Alike ops oj t tr:=by
 intro d hd
 rcases Nat.lt_or_ge d nt with hlt|hge
 rotate_left
 ·exact N.out d hge
 refine N.same d hlt fun⟨i,oi,h1,h2,h3,h4⟩=>?_
 obtain⟨o,ho,hq⟩:=N.quiet i h1 h2
 rw[h3]at ho;cases ho
 obtain⟨e,he,hb,rfl⟩:=regionOk_spec hok h3 hj hq h4 hd
 obtain⟨_,o',ho',hp⟩:=ready_iff.1 hr
 rw[hj]at ho';cases ho'
 exact h2 (hp e he hb)
theorem Near.drawn{ops:Array Oper}{nt:Nat}(hnt:nt≤60000){s r:List Nat}{t tr:TT}(N:Near ops nt s r t tr){i:Nat}{o:Oper}(ho:ops[i]?=some o)(hi:i∈s)(hir:i∈readyIn ops r){v:AV}(hv:∀d,o.dst=some d->d<nt->t.get d=v):
  Near ops nt s (i::r) t (putA nt tr o.dst v):=by
 refine⟨fun j hj=>?_,fun j hj hn=>N.quiet j hj fun x=>hn (List.mem_cons_of_mem _ x),fun n hlt hn=>?_,fun n hge=>?_,?_⟩
 ·rcases List.mem_cons.1 hj with rfl|hj
  ·exact hi
  ·exact N.sub j hj
 ·rw[putA_get hnt]
  split
  ·rename_i hd;exact(hv n hd.1 hd.2).symm
  ·rename_i hd
   refine N.same n hlt fun⟨a,oa,h1,h2,h3,h4⟩=>?_
   by_cases e:a=i
   ·subst e
    rw[ho]at h3;cases h3
    exact hd ⟨h4,hlt⟩
   ·exact hn ⟨a,oa,h1,(fun x=>(List.mem_cons.1 x).elim e h2),h3,h4⟩
 ·rw[putA_get hnt,if_neg fun x=>absurd x.2 (Nat.not_lt.2 hge)]
  exact N.out n hge
 ·exact N.down.cons hir
structure Soaked(ops:Array Oper)(nt:Nat)(s:List Nat)(t:TT)(s2:List Nat)(m2:Nat)(t2:TT):Prop where
 sub:∀i∈s,i∈s2
 quiet:∀i∈s2,i∉s->∃o,ops[i]?=some o∧quietOp o=true
 same:∀n,(¬∃i o,i∈s2∧i∉s∧ops[i]?=some o∧o.dst=some n∧n<nt)->t2.get n=t.get n
 cons:Cons s2 m2
 topo:Topo ops s2
theorem soakM_ok{P:Program}{O:Orc}{ext:Ext}{nt:Nat}(hnt:nt≤60000){ops:Array Oper}{h:AH}:∀{l:List Info},(∀x∈l,x∈infosOf ops)->∀{s:List Nat} {m:Nat} {t:TT} {s2:List Nat} {m2:Nat} {t2:TT},Cons s m->Topo ops s->
  soakM P O ext nt ops h l s m t=.ok (s2,m2,t2)->Soaked ops nt s t s2 m2 t2
 |[],_,s,m,t,s2,m2,t2,c,tp,he=>by
  simp only[soakM]at he
  cases he
  exact⟨fun i x=>x,fun i x y=>absurd x y,fun n _=>rfl,c,tp⟩
 |x::l,hl,s,m,t,s2,m2,t2,c,tp,he=>by
  have hl':∀y∈l,y∈infosOf ops:=fun y hy=>hl y (List.mem_cons_of_mem _ hy)
  simp only[soakM]at he
  split at he
  ·exact soakM_ok hnt hl' c tp he
  ·rename_i hb
   rw[Bool.and_eq_true]at hb
   obtain⟨i,o,ho,rfl⟩:=mem_infos.1 (hl x (List.mem_cons_self ..))
   dsimp only at hb he
   have hr:=(can_iff c ho).1 hb.2
   have step:∀{v:AV} {s2:List Nat} {m2:Nat} {t2:TT},soakM P O ext nt ops h l (i::s) (addM m i) (putA nt t o.dst v)=.ok (s2,m2,t2)->Soaked ops nt s t s2 m2 t2:=by
    intro v s2 m2 t2 he
    have S:=soakM_ok hnt hl' (c.add (i:=i)) (show Topo ops (i::s)from⟨hr,tp⟩) he
    refine⟨fun j hj=>S.sub j (List.mem_cons_of_mem _ hj),fun j hj hn=>?_,fun n hn=>?_,S.cons,S.topo⟩
    ·by_cases e:j=i
     ·subst e;exact⟨o,ho,hb.1⟩
     ·exact S.quiet j hj fun x=>(List.mem_cons.1 x).elim e hn
    ·rw[S.same n fun⟨j,oj,h1,h2,h3,h4,h5⟩=>hn ⟨j,oj,h1,fun x=>h2 (List.mem_cons_of_mem _ x),h3,h4,h5⟩,putA_get hnt]
     refine if_neg fun⟨h4,h5⟩=>hn ⟨i,o,S.sub i (List.mem_cons_self ..),(readyIn_mem hr).2,ho,h4,h5⟩
   split at he
   ·cases he
   ·exact step he
   ·split at he
    ·exact step he
    ·cases he
    ·cases he
theorem Near.next{ops:Array Oper}{nt:Nat}(hnt:nt≤60000){s r:List Nat}{t tr:TT}(N:Near ops nt s r t tr){j:Nat}{o:Oper}(ho:ops[j]?=some o)(hj:j∉s)(hjr:j∈readyIn ops r){v:AV}{s2:List Nat}{m2:Nat}{t2:TT}
 (S:Soaked ops nt (j::s) (putA nt t o.dst v) s2 m2 t2):Near ops nt s2 (j::r) t2 (putA nt tr o.dst v):=by
 have hsub:∀i∈j::r,i∈j::s:=fun i hi=>by
  rcases List.mem_cons.1 hi with rfl|hi
  ·exact List.mem_cons_self ..
  ·exact List.mem_cons_of_mem _ (N.sub i hi)
 have same2:∀n,(¬∃i o,i∈s2∧i∉j::r∧ops[i]?=some o∧o.dst=some n∧n<nt)->t2.get n=(putA nt t o.dst v).get n:=fun n hn=>
  S.same n fun⟨i,oi,h1,h2,h3,h4,h5⟩=>hn ⟨i,oi,h1,fun x=>h2 (hsub i x),h3,h4,h5⟩
 refine⟨fun i hi=>S.sub i (hsub i hi),fun i hi hn=>?_,fun n hlt hn=>?_,fun n hge=>?_,N.down.cons hjr⟩
 ·by_cases e:i∈j::s
  ·rcases List.mem_cons.1 e with rfl|e
   ·exact absurd (List.mem_cons_self ..) hn
   ·exact N.quiet i e fun x=>hn (List.mem_cons_of_mem _ x)
  ·exact S.quiet i hi e
 ·rw[same2 n fun⟨i,oi,h1,h2,h3,h4,h5⟩=>hn ⟨i,oi,h1,h2,h3,h4⟩,putA_get hnt,putA_get hnt]
  split
  ·rfl
  ·refine N.same n hlt fun⟨a,oa,h1,h2,h3,h4⟩=>hn ⟨a,oa,S.sub a (List.mem_cons_of_mem _ h1),(fun x=>?_),h3,h4⟩
   rcases List.mem_cons.1 x with rfl|x
   ·exact hj h1
   ·exact h2 x
 ·rw[same2 n fun⟨i,oi,h1,h2,h3,h4,h5⟩=>absurd h5 (Nat.not_lt.2 hge),putA_get hnt,putA_get hnt,if_neg fun x=>absurd x.2 (Nat.not_lt.2 hge),if_neg fun x=>absurd x.2 (Nat.not_lt.2 hge)]
  exact N.out n hge
theorem Near.begin{ops:Array Oper}{nt:Nat}{t:TT}{s2:List Nat}{m2:Nat}{t2:TT}(S:Soaked ops nt [] t s2 m2 t2):Near ops nt s2 [] t2 t:=
 ⟨(fun i hi=>by cases hi),fun i hi hn=>S.quiet i hi hn,fun n hlt hn=>(S.same n fun⟨i,oi,h1,h2,h3,h4,h5⟩=>hn ⟨i,oi,h1,h2,h3,h4⟩).symm,fun n hge=>(S.same n fun⟨i,oi,h1,h2,h3,h4,h5⟩=>absurd h5 (Nat.not_lt.2 hge)).symm,fun i hi=>by cases hi⟩
theorem Near.over{ops:Array Oper}{nt:Nat}{s r:List Nat}{t tr:TT}(N:Near ops nt s r t tr)(tp:Topo ops s)(hr:readyIn ops r=[]):(∀i∈s,i∈r)∧readyIn ops s=[]∧∀n,tr.get n=t.get n:=by
 have hall:∀i∈s,i∈r:=fun i hi=>Classical.byContradiction fun hn=>by
  obtain⟨j,_,hj⟩:=tp.ready ⟨i,hi,hn⟩
  rw[hr]at hj;cases hj
 refine⟨hall,?_,fun n=>?_⟩
 ·rw[readyIn_congr (b:=r) fun i=>⟨hall i,N.sub i⟩];exact hr
 ·rcases Nat.lt_or_ge n nt with hlt|hge
  ·exact N.same n hlt fun⟨i,o,h1,h2,_⟩=>h2 (hall i h1)
  ·exact N.out n hge
theorem holdsQ_ok{P:Program}{O:Orc}{ext:Ext}{nt:Nat}{ops:Array Oper}{m:Nat}{t:TT}{h:AH}:∀{l:List Info},holdsQ P O ext nt ops m t h l=true->∀x∈l,x.2.2.2=true->inM m x.1=true->
  ∃v,(wantedA O ops t x.2.1=.ok false∧v=undefA∨wantedA O ops t x.2.1=.ok true∧∃h',op? P O ext h (evalA t) x.2.1=.ok (.value v,h'))∧∀d,x.2.1.dst=some d->d<nt->t.get d=v
 |[],_,x,hx,_,_=>by cases hx
 |y::l,he,x,hx,hq,hm=>by
  simp only[holdsQ,Bool.and_eq_true]at he
  have put:∀{v:AV},dstIs nt t x.2.1.dst v=true->∀d,x.2.1.dst=some d->d<nt->t.get d=v:=by
   intro v hd d hdd hlt
   unfold dstIs at hd
   rw[hdd]at hd
   dsimp only at hd
   have h2:Nat.ble (d+1) nt=true:=Nat.ble_eq_true_of_le (Nat.succ_le_of_lt hlt)
   rw[h2]at hd
   exact AV.eqb_eq _ _ hd
  rcases List.mem_cons.1 hx with rfl|hx
  ·have h1:=he.1
   rw[hq,hm]at h1
   simp only[Bool.and_self]at h1
   split at h1
   ·cases h1
   ·rename_i hw;exact⟨_,.inl ⟨hw,rfl⟩,put h1⟩
   ·rename_i hw
    split at h1
    ·rename_i v h' hop;exact⟨v,.inr ⟨hw,h',hop⟩,put h1⟩
    ·cases h1
  ·exact holdsQ_ok he.2 x hx hq hm
end Go.Proofs.Ytmobbajggkjpgaa.SX
