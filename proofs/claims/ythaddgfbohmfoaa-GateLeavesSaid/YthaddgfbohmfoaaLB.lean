/-
  A symbolic run of the model, proved sound, and the walk of the code: a text of its parts. Conditions: none.
-/
import Derived.Test.YthaddgfbohmfoaaLA
set_option linter.unusedSectionVars false
set_option maxRecDepth 100000
set_option linter.unusedVariables false
set_option linter.unusedSimpArgs false
namespace Go.Proofs.Ythaddgfbohmfoaa.SX
open _root_.List renaming mem_singleton->ad,map_cons->ah,map_nil->ak,mem_cons_of_mem->am,mem_cons_self->an,mem_append->ay,cons_append->az,nil_append->aA,length_append->aD,getElem?_append_right->aE,getElem?_eq_getElem->aF,getElem?_eq_some_iff->aH,mem_map->aJ,all_eq_true->aO,getElem?_append_left->aP,append_nil->aX,map_congr_left->aY,length_cons->bd,mem_of_getElem?->bf,length_range->bh,length_map->bj,toList_toArray->bm,getElem?_toArray->bw
open _root_.Option renaming map_some->af,map_none->bu
open _root_.Int renaming toNat_natCast->ap
open _root_.Nat renaming le_refl->aq,eq_of_beq_eq_true->aI,lt_succ_self->a_,le_trans->bp,mul_le_mul_right->bq
open _root_.Option.some renaming inj->au
open _root_.Bool renaming and_eq_true->ax,false_eq_true->aR
open _root_.Array renaming getElem?_setIfInBounds_ne->aC,getElem?_eq_getElem->aT,getElem?_eq_some_iff->bc,getElem?_toList->bl,toList_inj->bD
section
variable {K:ik}{ρ:cn}{h:AH}{w:World}{U:Nat->Prop}
theorem uD{E:Value->World->Prop}{n:Nat}{arr:Array Value}{e:TypeId}{f:Nat×Nat}(hn:w.heap[n]?=some (.cells arr e f)){Q:Option (Addr×TypeId)->World->Prop}(hq:Q none w):wq K.P K.Ev E (viewAt n) Q w:=by
 simp only[viewAt,bG,v8];have:(w.shape? n).isSome=true:=by simp[World.shape?,hn]
 rw[if_pos this];exact hq
theorem uE{E:Value->World->Prop}{a:Addr}{arr:Array Value}{e:TypeId}{f:Nat×Nat}(hn:w.heap[a.block]?=some (.cells arr e f)){Q:Unit->World->Prop}(hq:Q () w):wq K.P K.Ev E (noView a) Q w:=by simp only[noView,bG];exact uD hn (by simpa using hq)
theorem qz{E:Value->World->Prop}{b o:Nat}{arr:Array Value}{e:TypeId}(hn:w.heap[b]?=some (.cells arr e (0,0))){Q:Bool->World->Prop}(hq:Q false w):wq K.P K.Ev E (stringish ⟨b,o,none⟩) Q w:=by simp only[stringish,bG,qt,jA hn];simp only[aR,if_false,bG,v8,World.shape?,hn];have:w.frozen? ⟨b,arr.size,none⟩=false:=jA hn;simp only[qt,this];exact hq
theorem He(R:Rel K ρ h w){E:Value->World->Prop}{i j m n:Nat}{b c:bM}(hb:cV i h.hp=some b)(hc:cV j h.hp=some c)(mb:b.qo=true)(mc:c.qo=true)(df:i≠j){Q:Bool->World->Prop}(hq:Q false w):
  wq K.P K.Ev E (sameAddr ⟨ρ.b i,m,none⟩ ⟨ρ.b j,n,none⟩) Q w:=by
 obtain⟨a1,h1,_⟩:=R.arr hb mb;obtain⟨a2,h2,_⟩:=R.arr hc mc;have aii:¬ρ.b i=ρ.b j:=fun e=>df (R.inj i j b c hb hc e);have awq:(ρ.b i==ρ.b j)=false:=by simpa using aii
 simp only[sameAddr,bG,iF];rw[if_neg (by simp[aii])];simp only[qt,bG,jA h1,bO];simp only[qt,jA h2,Bool.false_and,aR,if_false,bG,bO];refine uE h1 ?_;refine uE h2 ?_;simp only[mayBeOne,bG];refine qz h1 ?_;refine qz h2 ?_;simp only[Bool.false_and,Bool.or_false,bG,bO,aR,if_false];exact hq
theorem oC{E:Value->World->Prop}{b m n:Nat}{Q:Bool->World->Prop}(hq:Q (m==n) w):wq K.P K.Ev E (sameAddr ⟨b,m,none⟩ ⟨b,n,none⟩) Q w:=by
 simp only[sameAddr,iF,bG];rw[if_pos (by simp)];have:((⟨b,m,none⟩:Addr)==⟨b,n,none⟩)=(m==n):=by
  by_cases e:m=n
  ·subst e;simp
  ·have h1:(m==n)=false:=by simpa using e
   rw[h1];rw[beq_eq_false_iff_ne];intro x;cases x;exact e rfl
 simp only[bO];rw[this];exact hq
theorem N_{P:Program}{eq:TypeId->AV->AV->M BE}(hi:∀t x y b,eq t x y=.ok b->x.In U->y.In U->b.In U){xs ys:List AV}(hx:AV.iB U xs)(hy:AV.iB U ys):∀{l:List Field} {b:BE},eqAll? P eq xs ys l=.ok b->b.In U:=by
 intro l
 induction l with
 |nil=>intro b he;cases he;trivial
 |cons f l ih=>
  intro b he;unfold eqAll? at he;split at he
  ·cases he
  ·rw[bN]at he;obtain⟨a,ha,he⟩:=he;rw[bN]at he;obtain⟨c,hc,he⟩:=he;rw[bN]at he;obtain⟨r,hr,he⟩:=he;have:=hi _ _ _ _ hr (wj ha hx) (wj hc hy);split at he
   ·exact ih he
   ·cases he;trivial
   ·split at he
    ·cases he;exact this
    ·cases he
theorem Rv:∀{d:Nat} {t:TypeId} {x y:AV} {b:BE},eq? K.P K.O h d t x y=.ok b->x.In U->y.In U->b.In U:=by
 intro d
 induction d with
 |zero=>intro t x y b he;simp[eq?]at he
 |succ d ih=>
  intro t x y b he hx hy;simp only[eq?]at he;rw[bN]at he;obtain⟨D,hD,he⟩:=he;split at he
  ·split at he<;>first|(rw[bV]at he;subst he;trivial)|cases he
  ·split at he
   ·rw[bV]at he;subst he;exact Fd ⟨hx,hy⟩
   ·cases he
  ·rw[bV]at he;subst he;trivial
  ·rw[bV]at he;subst he;trivial
  ·rw[bV]at he;subst he;trivial
  ·rw[bN]at he;obtain⟨s,hs,he⟩:=he;split at he
   ·cases he
   ·split at he
    ·split at he
     ·rw[bV]at he;subst he;trivial
     ·split at he
      ·split at he<;>first|(rw[bV]at he;subst he;trivial)|cases he
      ·cases he
    ·split at he<;>first|(rw[bV]at he;subst he;trivial)|cases he
    ·cases he
  ·rw[bV]at he;subst he;trivial
  ·rw[bV]at he;subst he;trivial
  ·rw[bV]at he;subst he;trivial
  ·split at he
   ·split at he
    ·split at he
     ·exact ih he hx hy
     ·cases he
    ·cases he
   ·rw[bV]at he;subst he;trivial
  rotate_right 2
  ·split at he
   ·cases he
   ·exact N_ (fun _ _ _ _ h1 h2 h3=>ih h1 h2 h3) hx hy he
  ·cases he
  all_goals first
   |(rw[bV]at he;subst he;trivial)
   |cases he
theorem Rx{E:Value->World->Prop}{D:Nat}{eq:TypeId->AV->AV->M BE}(hi:∀{t x y b},eq t x y=.ok b->∀{Q:Bool->World->Prop},Q (b.ev ρ) w->wq K.P K.Ev E (Op.equalIn D t (x.ev ρ) (y.ev ρ)) Q w){xs ys:List AV}:
  ∀{l:List Field} {b:BE},eqAll? K.P eq xs ys l=.ok b->∀{Q:Option Bool×Unit->World->Prop},Q (if b.ev ρ=true then(none,())else(some false,())) w->wq K.P K.Ev E (forIn l ((none,()):Option Bool×Unit) fun f _=>
       if f.name≠ "_" then do
        let a<-part f.type (AV.cf ρ xs).toArray f.offset;let b<-part f.type (AV.cf ρ ys).toArray f.offset;let c<-Op.equalIn D f.type a b
        if(!c)=true then pure (ForInStep.done (some false,()))else pure (ForInStep.yield (none,()))
       else pure (ForInStep.yield (none,()))) Q w:=by
 intro l
 induction l with
 |nil=>intro b he Q hq;cases he;simp only[List.forIn_nil,bO];exact hq
 |cons f l ih=>
  intro b he Q hq;unfold eqAll? at he;split at he
  ·cases he
  ·rename_i hn;rw[bN]at he;obtain⟨a,ha,he⟩:=he;rw[bN]at he;obtain⟨c,hc,he⟩:=he;rw[bN]at he;obtain⟨r,hr,he⟩:=he;simp only[List.forIn_cons,bG];rw[if_pos hn];simp only[bG];refine zH ha (zH hc (hi hr ?_));split at he
   ·simp only[BE.ev,Bool.not_true,aR,if_false,bO];exact ih he hq
   ·cases he;simp only[BE.ev,Bool.not_false,if_true,bO]at hq⊢;exact hq
   ·split at he
    ·have e:=Except.ok.inj he;rw[e];by_cases hb:b.ev ρ=true
     ·rw[if_pos hb]at hq;simp only[hb,Bool.not_true,aR,if_false,bO,List.forIn_nil];exact hq
     ·rw[if_neg hb]at hq;have qj:b.ev ρ=false:=by simpa using hb
      simp only[qj,Bool.not_false,if_true,bO];exact hq
    ·cases he
theorem JY(R:Rel K ρ h w){E:Value->World->Prop}:∀{d D:Nat} {t:TypeId} {x y:AV} {b:BE},d≤D->eq? K.P K.O h d t x y=.ok b->∀{Q:Bool->World->Prop},Q (b.ev ρ) w->
  wq K.P K.Ev E (Op.equalIn D t (x.ev ρ) (y.ev ρ)) Q w:=by
 intro d
 induction d with
 |zero=>intro D t x y b _ he;simp[eq?]at he
 |succ d ih=>
  intro D t x y b hD he Q hq;obtain⟨D,rfl⟩:∃D',D=D'+1:=⟨D-1,by omega⟩;simp only[eq?]at he;rw[bN]at he;obtain⟨T,hT,he⟩:=he;have hU:=dT hT;simp only[Op.equalIn,bG,b_ hU];split at he
  ·
   rename_i a b';simp only[AV.ev];split at he
   ·rename_i t1 t2 e1 e2;rw[bV]at he;subst he;rw[bO,oA R e1,oA R e2];exact hq
   ·cases he
  ·
   simp only[AV.ev];split at he
   ·rename_i hk;rw[bV]at he;subst he;rw[zG R]at hq;simp only[iF,if_pos hk,bO];exact hq
   ·cases he
  ·simp only[AV.ev];rw[bV]at he;subst he;rw[bO];exact hq
  ·rw[bV]at he;subst he;rename_i b';cases b'<;>simpa[AV.ev,BE.ev] using hq
  ·rw[bV]at he;subst he;simpa[AV.ev,BE.ev] using hq
  ·
   rename_i e a b';rw[bN]at he;obtain⟨s,hs,he⟩:=he;split at he
   ·cases he
   ·rename_i hs0;simp only[AV.ev,af,bG,d3 hs];rw[if_pos hs0];split at he
    ·rename_i i m j n h1 h2 h3 h4;have ea:a.ev ρ=⟨ρ.b i,m,none⟩:=by simp[AA.ev,h1,h2,BR.ev,IE.ev]
     have eb:b'.ev ρ=⟨ρ.b j,n,none⟩:=by simp[AA.ev,h3,h4,BR.ev,IE.ev]
     rw[ea,eb];split at he
     ·rename_i hij;rw[bV]at he;subst he;have:i=j:=by simpa using hij
      subst this;exact oC hq
     ·rename_i hij;have df:i≠j:=by simpa using hij
      split at he
      ·rename_i hb hc;split at he
       ·rename_i hm;rw[ax]at hm;rw[bV]at he;subst he;exact He R hb hc hm.1 hm.2 df hq
       ·cases he
      ·cases he
    ·rename_i i m j n h1 h2 h3 h4;have ea:a.ev ρ=⟨i,m,none⟩:=by simp[AA.ev,h1,h2,BR.ev,IE.ev]
     have eb:b'.ev ρ=⟨j,n,none⟩:=by simp[AA.ev,h3,h4,BR.ev,IE.ev]
     rw[ea,eb];split at he
     ·rename_i hij;rw[bV]at he;subst he;have:i=j:=by simpa using hij
      subst this;exact oC hq
     ·cases he
    ·cases he
  ·rw[bV]at he;subst he;simpa[AV.ev,BE.ev] using hq
  ·rw[bV]at he;subst he;simpa[AV.ev,BE.ev] using hq
  ·rw[bV]at he;subst he;simpa[AV.ev,BE.ev] using hq
  ·
   rename_i tx vx ty vy;simp only[AV.ev];split at he
   ·rename_i htt;have:tx=ty:=by simpa using htt
    subst this;split at he
    ·rename_i i hi;split at he
     ·rename_i acV;simp only[iF,bG,dZ hi];rw[if_neg (by simp),if_neg (by simp[acV])];exact ih (by omega) he hq
     ·cases he
    ·cases he
   ·rename_i htt;have:tx≠ty:=by simpa using htt
    rw[bV]at he;subst he;simp only[iF];rw[if_pos this];exact hq
  ·rw[bV]at he;subst he;rename_i b' _ _;cases b'<;>simpa[AV.ev,BE.ev] using hq
  ·rw[bV]at he;subst he;simpa[AV.ev,BE.ev] using hq
  ·rw[bV]at he;subst he;rename_i b';cases b'<;>simpa[AV.ev,BE.ev] using hq
  ·rw[bV]at he;subst he;simpa[AV.ev,BE.ev] using hq
  ·rw[bV]at he;subst he;simpa[AV.ev,BE.ev] using hq
  ·rw[bV]at he;subst he;simpa[AV.ev,BE.ev] using hq
  ·rw[bV]at he;subst he;simpa[AV.ev,BE.ev] using hq
  ·rw[bV]at he;subst he;rename_i b';cases b'<;>simpa[AV.ev,BE.ev] using hq
  ·rw[bV]at he;subst he;simpa[AV.ev,BE.ev] using hq
  ·rename_i fs xs ys;split at he
   ·cases he
   ·rename_i di;simp only[AV.ev,bG,jz];rw[if_neg di];simp only[bG];rw[<-Array.forIn_toList];refine Rx (fun h1 _ h2=>ih (by omega) h1 h2) he ?_;by_cases hb:b.ev ρ=true
    ·rw[if_pos hb];rw[hb]at hq;exact hq
    ·rw[if_neg hb];rw[show b.ev ρ=false by simpa using hb]at hq;exact hq
  ·cases he
theorem wm(R:Rel K ρ h w){E:Value->World->Prop}{t:TypeId}{x y:AV}{b:BE}(he:eq? K.P K.O h 8 t x y=.ok b){Q:Bool->World->Prop}(hq:Q (b.ev ρ) w):
 wq K.P K.Ev E (Op.equal t (x.ev ρ) (y.ev ρ)) Q w:=JY R (by unfold Op.maxDepth;omega) he hq
theorem Ms{b c:BE}(hn:CN b=.ok c)(ρ:cn):c.ev ρ=!b.ev ρ:=by
 cases b with
 |lit t=>simp[CN]at hn;subst hn;rfl
 |var i=>simp[CN]at hn
 |cmp o a b=>
  cases o<;>simp[CN]at hn<;>subst hn<;>simp only[BE.ev,G2]
  ·simp[bne]
  ·simp[bne]
  ·simp[decide_not.symm,Int.not_lt]
  ·simp[decide_not.symm,Int.not_le]
  ·simp[decide_not.symm,Int.not_lt]
  ·simp[decide_not.symm,Int.not_le]
theorem Mt{b c:BE}(hn:CN b=.ok c)(hi:b.In U):c.In U:=by
 cases b with
 |lit t=>simp[CN]at hn;subst hn;trivial
 |var i=>simp[CN]at hn
 |cmp o a b=>cases o<;>simp[CN]at hn<;>subst hn<;>exact hi
end
section
variable {K:ik}{ρ:cn}{h:AH}{w:World}{U:Nat->Prop}
theorem Oa(o:BinOp)(t:TypeId)(k:IntKind)(a b:Int)(ho:intArith? o=true):binOp o t (.int k a) (.int k b)=pure (.int k (o0 o k a b)):=by cases o<;>simp_all [intArith?]<;>simp[binOp,o0,Op.intArith,Op.intBits]
theorem Ob(o:BinOp)(t:TypeId)(k:IntKind)(a b:Int)(ho:cmp? o=true):binOp o t (.int k a) (.int k b)=pure (.bool (G2 o a b)):=by cases o<;>simp_all [cmp?]<;>simp[binOp,G2,Op.intCmp]
theorem Oc(t:TypeId){x y:Value}(hx:(∃k n,x=.int k n)->¬∃k n,y=.int k n)(hs:(∃s,x=.string s)->¬∃s,y=.string s)(hf:∀k n,x≠.float k n)(hc:∀k n m,x≠.complex k n m):
  binOp .eql t x y=(do pure (.bool (<-Op.equal t x y))):=by
 cases x<;>first|exact absurd rfl (hf _ _)|exact absurd rfl (hc _ _ _)|skip
 all_goals cases y<;>first|rfl|exact absurd ⟨_,_,rfl⟩ (hx ⟨_,_,rfl⟩)|exact absurd ⟨_,rfl⟩ (hs ⟨_,rfl⟩)
theorem Od(t:TypeId){x y:Value}(hx:(∃k n,x=.int k n)->¬∃k n,y=.int k n)(hs:(∃s,x=.string s)->¬∃s,y=.string s)(hf:∀k n,x≠.float k n)(hc:∀k n m,x≠.complex k n m):
  binOp .neq t x y=(do pure (.bool (!(<-Op.equal t x y)))):=by
 cases x<;>first|exact absurd rfl (hf _ _)|exact absurd rfl (hc _ _ _)|skip
 all_goals cases y<;>first|rfl|exact absurd ⟨_,_,rfl⟩ (hx ⟨_,_,rfl⟩)|exact absurd ⟨_,rfl⟩ (hs ⟨_,rfl⟩)
theorem DB{d:Nat}{t:TypeId}{x y:AV}{b:BE}(he:eq? K.P K.O h d t x y=.ok b):(∀k n,x.ev ρ≠.float k n)∧(∀k n m,x.ev ρ≠.complex k n m)∧((∃s,x=.str s)∨∀s,x.ev ρ≠.string s)∧((∃k e,x=.int k e)∨∀k n,x.ev ρ≠.int k n)∧
  ((∃s,x=.str s)->∃s,y=.str s)∧((∃k e,x=.int k e)->∃k e,y=.int k e):=by
 cases d with
 |zero=>simp[eq?]at he
 |succ d=>
  simp only[eq?]at he;rw[bN]at he;obtain⟨T,hT,he⟩:=he;split at he<;>first
   |(cases he;done)
   |(refine⟨?_,?_,?_,?_,?_,?_⟩<;>simp[AV.ev])
theorem Fe(a b:ByteArray):Op.stringOp .eql a b=pure (.bool (a.toList==b.toList)):=rfl
theorem Ff(a b:ByteArray):Op.stringOp .neq a b=pure (.bool !(a.toList==b.toList)):=rfl
theorem Fg(R:Rel K ρ h w){b:IE}{t1:Bool}(QS:K.O.dec (.cmp .lss b (.lit 0))=.ok t1)(hn:¬t1=true):¬b.ev ρ<0:=by have h1:decide (b.ev ρ<0)=t1:=pT R QS;intro hc;exact hn (h1▸decide_eq_true hc)
theorem Hf(R:Rel K ρ h w){b:IE}{t1:Bool}(QS:K.O.dec (.cmp .eql b (.lit 0))=.ok t1)(hn:¬t1=true):¬b.ev ρ=0:=by have h1:(b.ev ρ==0)=t1:=pT R QS;intro hc;exact hn (h1▸by simp[hc])
theorem Ry(R:Rel K ρ h w){E:Value->World->Prop}{o:BinOp}{t:TypeId}{x y v:AV}(he:binOp? K.P K.O h o t x y=.ok v){Q:Value->World->Prop}(hq:Q (v.ev ρ) w):
  wq K.P K.Ev E (binOp o t (x.ev ρ) (y.ev ρ)) Q w:=by
 unfold binOp? at he;split at he
 ·
  rename_i k a k' b;simp only[AV.ev];split at he
  ·
   simp only[bN]at he;obtain⟨t1,QS,he⟩:=he;split at he
   ·cases he
   ·rename_i hn;rw[bV]at he;subst he;simp only[AV.ev,oz R]at hq;simp only[binOp,Op.shift,iF];rw[if_neg (Fg R QS hn)];exact hq
  ·simp only[bN]at he;obtain⟨t1,QS,he⟩:=he;split at he
   ·cases he
   ·rename_i hn;rw[bV]at he;subst he;simp only[AV.ev,oz R]at hq;simp only[binOp,Op.shift,iF];rw[if_neg (Fg R QS hn)];exact hq
  ·split at he
   ·rename_i hk;subst hk;simp only[bN]at he;obtain⟨t1,QS,he⟩:=he;split at he
    ·cases he
    ·rename_i hn;rw[bV]at he;subst he;simp only[AV.ev,oz R]at hq;simp only[binOp,Op.intDiv,iF];rw[if_neg (by simp),if_neg (Hf R QS hn)];exact hq
   ·cases he
  ·split at he
   ·rename_i hk;subst hk;simp only[bN]at he;obtain⟨t1,QS,he⟩:=he;split at he
    ·cases he
    ·rename_i hn;rw[bV]at he;subst he;simp only[AV.ev,oz R]at hq;simp only[binOp,Op.intDiv,iF];rw[if_neg (by simp),if_neg (Hf R QS hn)];exact hq
   ·cases he
  ·split at he
   ·rename_i hk;subst hk;split at he
    ·rename_i ho;rw[bV]at he;subst he;simp only[AV.ev,oz R]at hq;rw[Oa _ _ _ _ _ ho];exact hq
    ·split at he
     ·rename_i ho;rw[bV]at he;subst he;simp only[AV.ev]at hq;rw[zG R]at hq;rw[Ob _ _ _ _ _ ho];exact hq
     ·cases he
   ·cases he
 ·
  rename_i a b;simp only[AV.ev];split at he
  ·rw[bV]at he;subst he;simp only[binOp];rw[Fe];exact hq
  ·rw[bV]at he;subst he;simp only[binOp];rw[Ff];exact hq
  ·split at he
   ·rename_i hle;rw[bV]at he;subst he;simp only[binOp,Op.stringOp,iF];rw[if_neg (by simp only[IntKind.max,IntKind.bits,IntKind.signed];simp;omega)];exact hq
   ·cases he
  ·cases he
 ·rename_i Jy xw;split at he
  ·simp only[bN,bV]at he;obtain⟨b,hb,rfl⟩:=he;obtain⟨s1,s2,s3,s4,s5,s6⟩:=DB (ρ:=ρ) hb;have hs:(∃s,x.ev ρ=.string s)->¬∃s,y.ev ρ=.string s:=by
    rintro⟨s,e⟩;rcases s3 with⟨s',rfl⟩|h3
    ·obtain⟨s2,rfl⟩:=s5 ⟨_,rfl⟩;exact absurd rfl (xw _ _ rfl)
    ·exact absurd e (h3 _)
   have hi:(∃k n,x.ev ρ=.int k n)->¬∃k n,y.ev ρ=.int k n:=by
    rintro⟨k,n,e⟩;rcases s4 with⟨k',e',rfl⟩|h4
    ·obtain⟨k2,e2,rfl⟩:=s6 ⟨_,_,rfl⟩;exact absurd rfl (Jy _ _ _ _ rfl)
    ·exact absurd e (h4 _ _)
   rw[Oc t hi hs s1 s2];simp only[bG,bO];exact wm R hb hq
  ·simp only[bN,bV]at he;obtain⟨b,hb,c,hc,rfl⟩:=he;obtain⟨s1,s2,s3,s4,s5,s6⟩:=DB (ρ:=ρ) hb;have hs:(∃s,x.ev ρ=.string s)->¬∃s,y.ev ρ=.string s:=by
    rintro⟨s,e⟩;rcases s3 with⟨s',rfl⟩|h3
    ·obtain⟨s2,rfl⟩:=s5 ⟨_,rfl⟩;exact absurd rfl (xw _ _ rfl)
    ·exact absurd e (h3 _)
   have hi:(∃k n,x.ev ρ=.int k n)->¬∃k n,y.ev ρ=.int k n:=by
    rintro⟨k,n,e⟩;rcases s4 with⟨k',e',rfl⟩|h4
    ·obtain⟨k2,e2,rfl⟩:=s6 ⟨_,_,rfl⟩;exact absurd rfl (Jy _ _ _ _ rfl)
    ·exact absurd e (h4 _ _)
   rw[Od t hi hs s1 s2];simp only[bG,bO];refine wm R hb ?_;simp only[AV.ev,Ms hc]at hq;exact hq
  ·cases he
theorem Oe(I:h_ K U h){o:BinOp}{t:TypeId}{x y v:AV}(he:binOp? K.P K.O h o t x y=.ok v)(hx:x.In U)(hy:y.In U):v.In U:=by
 unfold binOp? at he;split at he
 ·split at he
  all_goals try (split at he)
  all_goals try (simp only[bN]at he;obtain⟨t1,QS,he⟩:=he)
  all_goals try (split at he)
  all_goals try (split at he)
  all_goals first
   |(cases he;done)
   |(rw[bV]at he;subst he;first|exact ve I ⟨hx,hy⟩|exact Fd ⟨hx,hy⟩)
 ·split at he
  all_goals try (split at he)
  all_goals first
   |(cases he;done)
   |(rw[bV]at he;subst he;trivial)
 ·split at he
  ·simp only[bN,bV]at he;obtain⟨b,hb,rfl⟩:=he;exact Rv hb hx hy
  ·simp only[bN,bV]at he;obtain⟨b,hb,c,hc,rfl⟩:=he;exact Mt hc (Rv hb hx hy)
  ·cases he
theorem Fh{op:BinOp}(ho:¬(op=.eql∨op=.neq))(t:TypeId)(x y:Operand)(a b:Value):eqGuard op t x y a b=pure ():=by cases op<;>simp_all [eqGuard]
theorem xJ{E:Value->World->Prop}{t:TypeId}{ms:Array (String×TypeId)}(hm:K.P.underlying t=some (.interface ms))(acW:ms.isEmpty=true){Q:Bool->World->Prop}(hq:Q false w):
  wq K.P K.Ev E (Op.eqGuardIn Op.maxDepth t .nilIface .nilIface) Q w:=by
 obtain⟨d,hd⟩:∃d,Op.maxDepth=d+1:=⟨9999,rfl⟩;rw[hd];simp only[Op.eqGuardIn,bG,b_ hm,bO,acW,Bool.not_true];exact hq
theorem CR{op:BinOp}(ho:op=.eql∨op=.neq)(t:TypeId)(x y:Operand)(hc:(isConst? x||isConst? y)=true):eqGuard op t x y .nilIface .nilIface=pure ():=by
 rcases ho with rfl|rfl<;>cases x<;>cases y<;>first
  |rfl
  |exact absurd (show false=true from hc) (by simp)
theorem Hg{op:BinOp}(ho:op=.eql∨op=.neq)(t:TypeId)(x y:Operand)(hc:¬(isConst? x||isConst? y)=true):eqGuard op t x y .nilIface .nilIface=(do
  if<-Op.eqGuardIn Op.maxDepth t .nilIface .nilIface then unsupported (.noEntry "binop/eql: two nil values of an interface type with methods, neither of them the literal nil")):=by
 rcases ho with rfl|rfl<;>cases x<;>cases y<;>first
  |rfl
  |exact absurd rfl hc
theorem Hh{op:BinOp}(ho:op=.eql∨op=.neq)(t:TypeId)(x y:Operand)(a b:Array Value):eqGuard op t x y (.agg a) (.agg b)=(do
  if !(<-program).eqGuardType (<-program).depth t then return
  if<-Op.eqGuardIn Op.maxDepth t (.agg a) (.agg b)then unsupported (.noEntry "binop/eql: two nil values of an interface type with methods, in a part of a struct or an array")):=by
 rcases ho with rfl|rfl<;>rfl
theorem CS{op:BinOp}(t:TypeId)(x y:Operand){a b:Value}(h1:a=.nilIface->b≠.nilIface)(h2:(∃c,a=.agg c)->¬∃c,b=.agg c):eqGuard op t x y a b=pure ():=by
 cases op<;>first
  |rfl
  |(cases a<;>first
   |rfl
   |(cases b<;>first
    |rfl
    |exact absurd rfl (h1 rfl)
    |exact absurd ⟨_,rfl⟩ (h2 ⟨_,rfl⟩)))
theorem JZ{E:Value->World->Prop}{op:BinOp}{t:TypeId}{x y:Operand}{a b:AV}(he:eqGuard? K.P op t x y a b=.ok ()){Q:Unit->World->Prop}(hq:Q () w):
  wq K.P K.Ev E (eqGuard op t x y (a.ev ρ) (b.ev ρ)) Q w:=by
 by_cases ho:op=.eql∨op=.neq
 ·have hh:(match a,b with
    |.nilIface,.nilIface=>if isConst? x||isConst? y then(Except.ok ():M Unit)else
     match K.P.underlying t with
     |some (.interface ms)=>if ms.isEmpty then .ok ()else .error " two nil values"
     |_=>.error " two nil values"
    |.agg _,.agg _=>if K.P.eqGuardType K.P.depth t then .error " structs with interface values" else .ok ()
    |.CM _,_=>.error " raw"
    |_,.CM _=>.error " raw"
    |.ez _,_=>.error " veiled"
    |_,.ez _=>.error " veiled"
    |_,_=>.ok ())=.ok ():=by rcases ho with rfl|rfl<;>exact he
  split at hh
  ·
   simp only[AV.ev];split at hh
   ·rename_i hc;rw[CR ho t x y hc];exact hq
   ·rename_i hc;rw[Hg ho t x y hc];split at hh
    ·rename_i ms hm;split at hh
     ·rename_i acW;simp only[bG];exact xJ hm acW (by simpa using hq)
     ·cases hh
    ·cases hh
  ·simp only[AV.ev];rw[Hh ho];split at hh
   ·cases hh
   ·rename_i hg;simp only[bG,jz,iF];rw[if_pos (by simpa using hg)];exact hq
  all_goals try (cases hh;done)
  rename_i m1 m2 n1 n2 n3 n4;rw[CS]
  ·exact hq
  ·intro h1 h2;cases a<;>simp only[AV.ev]at h1<;>first
    |(cases h1;done)
    |skip
   all_goals cases b<;>simp only[AV.ev]at h2<;>first
    |(cases h2;done)
    |simp_all
  ·rintro⟨c,h1⟩ ⟨c',h2⟩;cases a<;>simp only[AV.ev]at h1<;>first
    |(cases h1;done)
    |skip
   all_goals cases b<;>simp only[AV.ev]at h2<;>first
    |(cases h2;done)
    |simp_all
 ·rw[Fh ho];exact hq
end
section
variable {K:ik}{ρ:cn}{h:AH}{w:World}{U:Nat->Prop}
theorem k_{x:AV}{a:AA}(hs:sureAddr? x=.ok a):x=.ptr (some a):=by
 unfold sureAddr? at hs;split at hs
 ·cases hs;rfl
 ·cases hs
theorem J0{E:Value->World->Prop}{s:TypeId}{x v:AV}{i:Nat}(he:fieldAddr? K.P s x i=.ok v){Q:Value->World->Prop}(hq:Q (v.ev ρ) w):wq K.P K.Ev E (Instr.fieldAt s (x.ev ρ) i) Q w:=by
 unfold fieldAddr? at he;simp only[bN]at he;obtain⟨D,hD,he⟩:=he;split at he
 ·rename_i fs;split at he
  ·rename_i f hf;simp only[bN]at he;obtain⟨a,ha,n,hn,he⟩:=he;split at he
   ·cases he
   ·rename_i Mu;rw[bV]at he;subst he;obtain rfl:=k_ ha;simp only[Instr.fieldAt,bG,b_ (dT hD),hf];simp only[AV.ev,af,Instr.sureAddr,bO,fieldPlace,bG,d3 hn];rw[if_neg Mu];simp only[AV.ev,af,AA.sI]at hq;exact hq
  ·cases he
 ·cases he
theorem CT{P:Program}{s:TypeId}{x v:AV}{i:Nat}(he:fieldAddr? P s x i=.ok v)(hx:x.In U):v.In U:=by
 unfold fieldAddr? at he;simp only[bN]at he;obtain⟨D,hD,he⟩:=he;split at he
 ·split at he
  ·simp only[bN]at he;obtain⟨a,ha,n,hn,he⟩:=he;split at he
   ·cases he
   ·rw[bV]at he;subst he;obtain rfl:=k_ ha;exact AA.xI _ hx
  ·cases he
 ·cases he
theorem Of(ρ:cn)(a:IE)(n:Nat):(Ak a n).ev ρ=(((a.ev ρ).toNat*n:Nat):Int):=by
 unfold Ak;split
 ·simp[IE.ev]
 ·split
  ·rename_i h1;subst h1;simp[IE.ev]
  ·simp[IE.ev]
theorem DC{a:IE}(n:Nat)(hi:a.In U):(Ak a n).In U:=by
 unfold Ak;split
 ·trivial
 ·split
  ·exact hi
  ·exact⟨hi,trivial⟩
theorem AA.abk(ρ:cn)(a:AA)(i:IE)(size:Nat):(a.at i size).ev ρ=(a.ev ρ).add ((i.ev ρ).toNat*size):=by
 have ht:=Of ρ i size;unfold AA.at;split
 ·rename_i n hn;rw[hn]at ht;simp only[IE.ev]at ht;rw[AA.sI];have:n=(i.ev ρ).toNat*size:=Int.ofNat.inj ht;rw[this]
 ·rename_i hn;split
  ·rename_i h0;simp only[AA.ev,h0,IE.ev,ht,Addr.add];simp only[ap,Int.toNat_zero,Nat.zero_add];split
   ·rename_i hz;rw[hz]
   ·rfl
  ·simp only[AA.ev,IE.ev,ht,Addr.add];have:((((a.off.ev ρ).toNat:Int)+(((i.ev ρ).toNat*size:Nat):Int))).toNat=(a.off.ev ρ).toNat+(i.ev ρ).toNat*size:=by omega
   rw[this];split
   ·rename_i hz;rw[hz];simp
   ·rfl
theorem AA.abl{a:AA}{i:IE}(size:Nat)(ha:a.In U)(hi:i.In U):(a.at i size).In U:=by
 unfold AA.at;split
 ·exact AA.xI _ ha
 ·split
  ·exact⟨ha.1,DC _ hi⟩
  ·exact⟨ha.1,ha.2,DC _ hi⟩
theorem DD(R:Rel K ρ h w){i len:IE}(he:index? K.O i len=.ok ()):0≤i.ev ρ∧i.ev ρ<len.ev ρ:=by
 unfold index? at he;simp only[bN]at he;obtain⟨t1,h1,he⟩:=he;split at he
 ·rename_i e1;simp only[bN]at he;obtain⟨t2,h2,he⟩:=he;split at he
  ·rename_i e2;subst e1;subst e2;have a1:decide (0≤i.ev ρ)=true:=pT R h1;have a2:decide (i.ev ρ<len.ev ρ)=true:=pT R h2;exact⟨of_decide_eq_true a1,of_decide_eq_true a2⟩
  ·cases he
 ·cases he
theorem Rz(ρ:cn)(len:IE){n:Int}(hn:0≤n)(hl:n<(match len with|.lit n=>IE.lit n|l=>.tn l).ev ρ):n<((len.ev ρ).toNat:Int):=by cases len<;>simp only[IE.ev]at hl⊢<;>omega
theorem J2(R:Rel K ρ h w){E:Value->World->Prop}{t:TypeId}{x i v:AV}(he:indexAddr? K.P K.O t x i=.ok v){Q:Value->World->Prop}(hq:Q (v.ev ρ) w):wq K.P K.Ev E (Instr.indexAt t (x.ev ρ) (i.ev ρ)) Q w:=by
 unfold indexAddr? at he;split at he
 ·rename_i k i;simp only[bN]at he;obtain⟨D,hD,he⟩:=he;split at he
  ·rename_i elem a len cap;simp only[bN,bV]at he;obtain⟨_,hix,n,hn,rfl⟩:=he;obtain⟨h1,h2⟩:=DD R hix;have h3:=Rz ρ len h1 h2;simp only[AV.ev,af,AA.abk]at hq;simp only[Instr.indexAt,AV.ev,af,asIntOf,bG,bO,b_ (dT hD)];simp only[iF,bG,d3 hn,bO];rw[if_pos ⟨h1,h3⟩];exact hq
  ·rename_i m elem a;simp only[bN,bV]at he;obtain⟨_,hix,n,hn,rfl⟩:=he;obtain⟨h1,h2⟩:=DD R hix;have h3:i.ev ρ<(m:Int):=h2;simp only[AV.ev,af,AA.abk]at hq;simp only[Instr.indexAt,AV.ev,af,asIntOf,bG,bO,b_ (dT hD),Instr.sureAddr];simp only[iF,bG,d3 hn,bO];rw[if_pos ⟨h1,h3⟩];exact hq
  ·cases he
 ·cases he
theorem CU{P:Program}{O:dP}{t:TypeId}{x i v:AV}(he:indexAddr? P O t x i=.ok v)(hx:x.In U)(hi:i.In U):v.In U:=by
 unfold indexAddr? at he;split at he
 ·simp only[bN]at he;obtain⟨D,hD,he⟩:=he;split at he
  ·simp only[bN,bV]at he;obtain⟨_,hix,n,hn,rfl⟩:=he;exact AA.abl _ hx.1 hi
  ·simp only[bN,bV]at he;obtain⟨_,hix,n,hn,rfl⟩:=he;exact AA.abl _ hx hi
  ·cases he
 ·cases he
theorem RC{E:Value->World->Prop}{t:TypeId}{x v:AV}{i:Nat}(he:field? K.P t x i=.ok v){Q:Value->World->Prop}(hq:Q (v.ev ρ) w):wq K.P K.Ev E (Instr.field t (x.ev ρ) i) Q w:=by
 unfold field? at he;simp only[bN]at he;obtain⟨D,hD,he⟩:=he;split at he
 ·rename_i fs cs;split at he
  ·rename_i f hf;simp only[Instr.field,bG,b_ (dT hD),hf,AV.ev,asAgg,bO];exact zH he hq
  ·cases he
 ·cases he
theorem Og{P:Program}{t:TypeId}{x v:AV}{i:Nat}(he:field? P t x i=.ok v)(hx:x.In U):v.In U:=by
 unfold field? at he;simp only[bN]at he;obtain⟨D,hD,he⟩:=he;split at he
 ·split at he
  ·exact wj he hx
  ·cases he
 ·cases he
theorem RD{E:Value->World->Prop}{t:TypeId}{x i v:AV}(he:indexOp? K.P t x i=.ok v){Q:Value->World->Prop}(hq:Q (v.ev ρ) w):wq K.P K.Ev E (Instr.index t (x.ev ρ) (i.ev ρ)) Q w:=by
 unfold indexOp? at he;simp only[bN]at he;obtain⟨D,hD,he⟩:=he;split at he
 ·rename_i n elem cs k i;split at he
  ·rename_i dU;simp only[bN]at he;obtain⟨s,hs,he⟩:=he;simp only[Instr.index,AV.ev,IE.ev,asIntOf,bG,bO,b_ (dT hD)];simp only[iF,bG,d3 hs];rw[if_pos ⟨by simp,by simpa using dU⟩];have:(Int.ofNat i).toNat=i:=rfl;rw[this];exact zH he hq
  ·cases he
 ·rename_i s k i;split at he
  ·rename_i b hb;rw[bV]at he;subst he;simp only[Instr.index,AV.ev,IE.ev,asIntOf,bG,bO,b_ (dT hD)];have dU:i<s.data.toList.length:=(aH.1 hb).1;have:(if 0≤Int.ofNat i then s[(Int.ofNat i).toNat]? else none)=some b:=by
    rw[if_pos (by simp)];have e:(Int.ofNat i).toNat=i:=rfl;rw[e];have hsz:i<s.size:=by simpa using dU
    rw[getElem?_pos s i hsz];have h2:=(aH.1 hb).2;rw[<-h2];rfl
   rw[this];simp only[AV.ev,IE.ev]at hq;exact hq
  ·cases he
 ·cases he
theorem Hi{P:Program}{t:TypeId}{x i v:AV}(he:indexOp? P t x i=.ok v)(hx:x.In U):v.In U:=by
 unfold indexOp? at he;simp only[bN]at he;obtain⟨D,hD,he⟩:=he;split at he
 ·split at he
  ·simp only[bN]at he;obtain⟨s,hs,he⟩:=he;exact wj he hx
  ·cases he
 ·split at he
  ·rw[bV]at he;subst he;trivial
  ·cases he
 ·cases he
theorem jB{e:IE}{n:Nat}(h:litNat? e=.ok n):e=.lit (.ofNat n):=by
 unfold litNat? at h;split at h
 ·cases h;rfl
 ·cases h
theorem tY{v:Option AV}{d n:Nat}(h:bound? v d=.ok n):(v=none∧n=d)∨∃k,v=some (.int k (.lit (.ofNat n))):=by
 unfold bound? at h;split at h
 ·cases h;exact .inl ⟨rfl,rfl⟩
 ·obtain rfl:=jB h;exact .inr ⟨_,rfl⟩
 ·cases h
theorem mD{E:Value->World->Prop}{k:IntKind}{n y:Nat}{code:BoundsCode}(hle:n≤y){Q:Nat->World->Prop}(hq:Q n w):wq K.P K.Ev E (Instr.sliceBound (.int k (Int.ofNat n)) y code) Q w:=by simp only[Instr.sliceBound,asIntOf,bG,bO,iF];rw[if_pos ⟨by simp,by simpa using hle⟩];exact hq
theorem RE{hi mx:Option AV}{len n:Nat}(h:high? hi mx len=.ok n):bound? hi len=.ok n∧(hi=none->mx=none):=by
 unfold high? at h;split at h
 ·cases h
 ·rename_i hn;refine⟨h,fun e=>?_⟩;subst e;cases mx with
  |none=>rfl
  |some v=>exact absurd rfl (hn _ rfl)
theorem oD{E:Value->World->Prop}{isS:Bool}{len cap:Nat}{lo hi mx:Option AV}{l h m:Nat}(he:bounds? len cap lo hi mx=.ok (l,h,m)){Q:Nat×Nat×Nat->World->Prop}(hq:Q (l,h,m) w):
  wq K.P K.Ev E (Instr.sliceBounds isS len cap (lo.map (AV.ev ρ)) (hi.map (AV.ev ρ)) (mx.map (AV.ev ρ))) Q w:=by
 unfold bounds? at he;simp only[bN]at he;obtain⟨m',hm,h',hh,l',hl,he⟩:=he;split at he
 ·rename_i hle;rw[bV]at he;cases he;obtain⟨hmc,hhm,hlh⟩:=hle;obtain⟨hh2,ao4⟩:=RE hh;have low:∀{code:BoundsCode},(match lo.map (AV.ev ρ)with|some v=>wq K.P K.Ev E (Instr.sliceBound v h code) (fun a w=>Q (a,h,m) w) w|none=>Q (0,h,m) w):=by
   intro code;rcases tY hl with⟨rfl,rfl⟩|⟨k,rfl⟩
   ·exact hq
   ·simp only[af,AV.ev,IE.ev];exact mD hlh hq
  rcases tY hm with⟨rfl,rfl⟩|⟨k,rfl⟩
  ·rcases tY hh2 with⟨rfl,rfl⟩|⟨k,rfl⟩
   ·simp only[Instr.sliceBounds,bu,bG,bO];have:=low (code:=if(none:Option Value).isSome then .slice3C else .sliceB);revert this;cases lo<;>first|exact id|(simp only[af,bu,bG,bO];exact id)
   ·simp only[Instr.sliceBounds,bu,af,AV.ev,IE.ev,bG,bO];refine mD hhm ?_;have:=low (code:=if(none:Option Value).isSome then .slice3C else .sliceB);revert this;cases lo<;>first|exact id|(simp only[af,bu,bG,bO];exact id)
  ·cases hi with
   |none=>exact absurd (ao4 rfl) (by simp)
   |some hv=>
    rcases tY hh2 with⟨e,_⟩|⟨k2,e⟩
    ·cases e
    ·cases e;simp only[Instr.sliceBounds,af,AV.ev,IE.ev,bG,bO];refine mD hmc ?_;refine mD hhm ?_;have:=low (code:=if(some (Value.int k (Int.ofNat m))).isSome then .slice3C else .sliceB);revert this;cases lo<;>first|exact id|(simp only[af,bu,bG,bO];exact id)
 ·cases he
theorem J3(ρ:cn)(a:Option AA)(n:Nat):(a.map (·.add n)).map (AA.ev ρ)=(a.map (AA.ev ρ)).map (·.add n):=by
 cases a with
 |none=>rfl
 |some a=>simp[AA.sI]
theorem Aw{E:Value->World->Prop}{t:TypeId}{x v:AV}{lo hi mx:Option AV}(he:sliceOp? K.P t x lo hi mx=.ok v){Q:Value->World->Prop}(hq:Q (v.ev ρ) w):
  wq K.P K.Ev E (Instr.sliceAt t (x.ev ρ) (lo.map (AV.ev ρ)) (hi.map (AV.ev ρ)) (mx.map (AV.ev ρ))) Q w:=by
 unfold sliceOp? at he;simp only[bN]at he;obtain⟨D,hD,he⟩:=he;have hU:=dT hD;split at he
 ·rename_i elem a len cap;simp only[bN]at he;obtain⟨n,hn,⟨l,h',m⟩,hb,s,hs,he⟩:=he;obtain rfl:=jB hn;rw[bV]at he;subst he;simp only[Instr.sliceAt,bG,b_ hU,Instr.slice,AV.ev,IE.ev];refine oD hb ?_;simp only[bG,d3 hs,bO];simp only[AV.ev,IE.ev]at hq;have e1:(Int.ofNat (h'-l)).toNat=h'-l:=rfl;have e2:(Int.ofNat (m-l)).toNat=m-l:=rfl;rw[e1,e2]at hq;by_cases hml:m=l
  ·rw[if_pos hml]at hq⊢;exact hq
  ·rw[if_neg hml]at hq⊢;rw[J3]at hq;exact hq
 ·rename_i s;split at he
  ·cases he
  ·simp only[bN]at he;obtain⟨⟨l,h',m⟩,hb,he⟩:=he;rw[bV]at he;subst he;simp only[Instr.sliceAt,bG,b_ hU,Instr.slice,AV.ev,bu];simp only[Option.isSome_none,aR,if_false];have:=oD (K:=K) (ρ:=ρ) (w:=w) (E:=E) (isS:=false) hb (Q:=fun r w=>Q (.string (s.extract r.1 r.2.1)) w) hq;rw[bG];exact this
 ·rename_i n elem a;simp only[bN]at he;obtain⟨⟨l,h',m⟩,hb,s,hs,he⟩:=he;rw[bV]at he;subst he;simp only[Instr.sliceAt,bG,b_ hU,AV.ev,af,Instr.sureAddr,bO];refine oD hb ?_;simp only[bG,d3 hs,bO];simp only[AV.ev,IE.ev]at hq;have e1:(Int.ofNat (h'-l)).toNat=h'-l:=rfl;have e2:(Int.ofNat (m-l)).toNat=m-l:=rfl;rw[e1,e2]at hq;by_cases hml:m=l
  ·rw[if_pos hml]at hq⊢;exact hq
  ·rw[if_neg hml]at hq⊢;simp only[af,AA.sI]at hq;exact hq
 ·cases he
theorem Hj{P:Program}{t:TypeId}{x v:AV}{lo hi mx:Option AV}(he:sliceOp? P t x lo hi mx=.ok v)(hx:x.In U):v.In U:=by
 unfold sliceOp? at he;simp only[bN]at he;obtain⟨D,hD,he⟩:=he;split at he
 ·rename_i elem a len cap;simp only[bN]at he;obtain⟨n,hn,⟨l,h',m⟩,hb,s,hs,he⟩:=he;rw[bV]at he;subst he;refine⟨?_,trivial,trivial⟩;split
  ·exact hx.1
  ·cases a with
   |none=>trivial
   |some a=>exact AA.xI _ hx.1
 ·split at he
  ·cases he
  ·simp only[bN]at he;obtain⟨⟨l,h',m⟩,hb,he⟩:=he;rw[bV]at he;subst he;trivial
 ·rename_i n elem a;simp only[bN]at he;obtain⟨⟨l,h',m⟩,hb,s,hs,he⟩:=he;rw[bV]at he;subst he;refine⟨?_,trivial,trivial⟩;split
  ·exact hx
  ·exact AA.xI _ hx
 ·cases he
end
section
variable {K:ik}{ρ:cn}{h:AH}{w:World}{U:Nat->Prop}
theorem J4(R:Rel K ρ h w){E:Value->World->Prop}{src dst:TypeId}{x v:AV}(he:convert? K.P K.O h src dst x=.ok v){Q:Value->World->Prop}(hq:Q (v.ev ρ) w):
  wq K.P K.Ev E (convert src dst (x.ev ρ)) Q w:=by
 unfold convert? at he;simp only[bN]at he;obtain⟨S,hS,D,hD,he⟩:=he;have hS':=dT hS;have hD':=dT hD;unfold convert;simp only[bG,b_ hS',b_ hD'];split at he
 ·rename_i k k' e;rw[bV]at he;subst he;simp only[AV.ev,oz R,IE.ev]at hq;simp only[AV.ev,Conv.intToInt];exact hq
 ·rw[bV]at he;subst he;cases S<;>exact hq
 ·rename_i t i n;split at he
  ·rename_i b hb;simp only[bN]at he;obtain⟨s,hs,he⟩:=he;split at he
   ·rename_i hc;rw[bV]at he;subst he;obtain⟨arr,ha,hf⟩:=R.arr hb (wd hc.1);obtain⟨u,hu⟩:∃u,b.cs[n]?=some u:=⟨_,aF hc.1⟩;have dU:n<arr.size:=(bc.1 (wb hf hu)).1;simp only[AV.ev,af,AA.ev,BR.ev,IE.ev]at hq⊢;have e0:(Int.ofNat n).toNat=n:=rfl;rw[e0]at hq⊢;simp only[Conv.unsafePointer,bG,b_ hS',b_ hD',Conv.seenAt];refine uD ha ?_;simp only[bO,cellsIn,bG,v8,World.shape?,ha];simp only[d3 hs];have h1:(decide (s=0)||(decide (n≥arr.size)&&(none:Option Nat).isNone))=false:=by
     simp[hc.2,Nat.not_le.2 dU]
    simp only[h1,aR,if_false];exact hq
   ·cases he
  ·cases he
 ·cases he
theorem Hk(I:h_ K U h){src dst:TypeId}{x v:AV}(he:convert? K.P K.O h src dst x=.ok v)(hx:x.In U):v.In U:=by
 unfold convert? at he;simp only[bN]at he;obtain⟨S,hS,D,hD,he⟩:=he;split at he
 ·rw[bV]at he;subst he;exact ve I hx
 ·rw[bV]at he;subst he;trivial
 ·split at he
  ·simp only[bN]at he;obtain⟨s,hs,he⟩:=he;split at he
   ·rw[bV]at he;subst he;exact hx
   ·cases he
  ·cases he
 ·cases he
theorem CV{E:Value->World->Prop}{x v:AV}{xt asserted:TypeId}{ok:Bool}(he:typeAssert? K.P x asserted ok=.ok v){Q:Value->World->Prop}(hq:Q (v.ev ρ) w):
  wq K.P K.Ev E (Instr.typeAssert (x.ev ρ) xt asserted ok) Q w:=by
 unfold typeAssert? at he;simp only[bN]at he;obtain⟨D,hD,he⟩:=he;have hU:=dT hD;have pm:∀{a b:Option TypeId} {m:String} {r:M AV},r=(if ok then(do pure (.tuple [<-zero? K.P asserted,.bool (.lit false)]))else .error "typeAssert fails")->r=.ok v->
   wq K.P K.Ev E (if ok then(do pure (.tuple #[<-zeroValue asserted,.bool false]))else runtimePanic (.typeAssertion a b asserted m):Sem Value) Q w:=by
  intro a b m r e hr;subst e;split at hr
  ·rename_i hok;simp only[bN,bV]at hr;obtain⟨z,hz,rfl⟩:=hr;simp only[if_pos hok,bG,fR (ρ:=ρ) hz,bO];simpa[AV.ev,AV.cf,BE.ev] using hq
  ·cases hr
 have holds:∀{u:AV} {r:M AV},r=pure (if ok then .tuple [u,.bool (.lit true)]else u)->r=.ok v->Q (if ok then .tuple #[u.ev ρ,.bool true]else u.ev ρ) w:=by
  intro u r e hr;subst e;rw[bV]at hr;subst hr;split at hq
  ·rename_i hok;simpa[AV.ev,AV.cf,BE.ev,hok] using hq
  ·rename_i hok;simpa[hok] using hq
 simp only[Instr.typeAssert,bG,b_ hU];split at he
 ·simp only[AV.ev];exact pm rfl he
 ·rename_i want t u;simp only[AV.ev];split at he
  ·rename_i i hi;simp only[bG,dZ hi];split at he
   ·rename_i hm;rw[vU hm];exact holds rfl he
   ·rename_i hm;obtain⟨m,hm'⟩:=vV hm;rw[hm'];exact pm rfl he
  ·cases he
 ·rename_i Jy;simp only[AV.ev];cases D<;>first|exact absurd rfl (Jy _)|exact pm rfl he
 ·rename_i t u Jy;simp only[AV.ev];split at he
  ·rename_i ht;cases D<;>first|exact absurd rfl (Jy _)|(simp only[iF];rw[if_pos ht];exact holds rfl he)
  ·rename_i ht;cases D<;>first|exact absurd rfl (Jy _)|(simp only[if_neg ht];exact pm rfl he)
 ·cases he
theorem Ax{P:Program}{x v:AV}{asserted:TypeId}{ok:Bool}(he:typeAssert? P x asserted ok=.ok v)(hx:x.In U):v.In U:=by
 unfold typeAssert? at he;simp only[bN]at he;obtain⟨D,hD,he⟩:=he;have pm:∀{r:M AV},r=(if ok then(do pure (.tuple [<-zero? P asserted,.bool (.lit false)]))else .error "typeAssert fails")->r=.ok v->v.In U:=by
  intro r e hr;subst e;split at hr
  ·simp only[bN,bV]at hr;obtain⟨z,hz,rfl⟩:=hr;exact⟨qy hz,trivial,trivial⟩
  ·cases hr
 have holds:∀{u:AV} {r:M AV},u.In U->r=pure (if ok then .tuple [u,.bool (.lit true)]else u)->r=.ok v->v.In U:=by
  intro u r hu e hr;subst e;rw[bV]at hr;subst hr;split
  ·exact⟨hu,trivial,trivial⟩
  ·exact hu
 split at he
 ·exact pm rfl he
 ·split at he
  ·split at he
   ·exact holds hx rfl he
   ·exact pm rfl he
  ·cases he
 ·exact pm rfl he
 ·split at he
  ·refine holds ?_ rfl he;exact hx
  ·exact pm rfl he
 ·cases he
theorem RF{l vs:List AV}{off:Nat}(hl:AV.iB U l)(hv:AV.iB U vs):AV.iB U (Dw l off vs):=by
 induction vs generalizing l off with
 |nil=>exact hl
 |cons v vs ih=>
  refine ih (dg.2 fun a ha=>?_) hv.2;rcases List.mem_or_eq_of_mem_set ha with h'|rfl
  ·exact dg.1 hl _ h'
  ·exact hv.1
theorem DE(ρ:cn):∀(vs l:List AV) (off k:Nat),((AV.cf ρ vs).zipIdx k).foldl (fun(cs:Array Value) (x:Value×Nat)=>cs.setIfInBounds (off+x.2) x.1) (AV.cf ρ l).toArray=(AV.cf ρ (Dw l (off+k) vs)).toArray
 |[],l,off,k=>rfl
 |v::vs,l,off,k=>by
  simp only[AV.cf,List.zipIdx_cons,List.foldl_cons,Dw];have:(AV.cf ρ l).toArray.setIfInBounds (off+k) (v.ev ρ)=(AV.cf ρ (l.set (off+k) v)).toArray:=by rw[zF];simp
  rw[this];exact DE ρ vs (l.set (off+k) v) off (k+1)
theorem sL{place:Nat->Option (Nat×Nat)}:∀{parts:List (Nat×AV)} {cells r:List AV},fill? place cells parts=.ok r->
  Instr.fill place (AV.cf ρ cells).toArray (parts.map fun p=>(p.1,p.2.ev ρ))=some (AV.cf ρ r).toArray:=by
 intro parts
 induction parts with
 |nil=>intro cells r hf;simp[fill?]at hf;subst hf;rfl
 |cons p parts ih=>
  obtain⟨i,v⟩:=p;intro cells r hf;simp only[fill?]at hf;split at hf
  ·cases hf
  ·rename_i off size hp;split at hf
   ·rename_i cs W1;split at hf
    ·rename_i hc;simp only[ah,Instr.fill,hp];rw[iR W1 ρ];have e1:(AV.cf ρ cs).toArray.size=size:=by simp[dt,hc.1]
     have e2:¬off+(AV.cf ρ cs).toArray.size>(AV.cf ρ cells).toArray.size:=by simp[dt];exact hc.2
     rw[if_neg (by simp only[Bool.or_eq_true,decide_eq_true_eq,not_or];exact⟨by simpa using e1,e2⟩)];have e3:(AV.cf ρ cs).toArray.zipIdx.foldl (fun(cs:Array Value) (x:Value×Nat)=>cs.setIfInBounds (off+x.2) x.1) (AV.cf ρ cells).toArray=(AV.cf ρ (Dw cells off cs)).toArray:=by rw[<-Array.foldl_toList,Array.toList_zipIdx];exact DE ρ cs cells off 0
     rw[<-ih hf];congr 1
    ·cases hf
   ·cases hf
theorem Ay{place:Nat->Option (Nat×Nat)}:∀{parts:List (Nat×AV)} {cells r:List AV},fill? place cells parts=.ok r->AV.iB U cells->(∀p∈parts,p.2.In U)->AV.iB U r:=by
 intro parts
 induction parts with
 |nil=>intro cells r hf hc _;simp[fill?]at hf;subst hf;exact hc
 |cons p parts ih=>
  obtain⟨i,v⟩:=p;intro cells r hf hc hp;simp only[fill?]at hf;split at hf
  ·cases hf
  ·split at hf
   ·rename_i cs W1;split at hf
    ·exact ih hf (RF hc (me W1 (hp (i,v) (by simp)))) fun p Az=>hp p (am _ Az)
    ·cases hf
   ·cases hf
theorem J5{P:Program}{Ev:Event->Prop}{E:Value->World->Prop}:∀{fs:List Field} {pQ:List (Nat×Nat)},(fs.mapM fun f=>(do pure (f.offset,<-sizeOf? P f.type):M (Nat×Nat)))=.ok pQ->
  ∀{Q:List (Nat×Nat)->World->Prop} {w:World},Q pQ w->wq P Ev E (fs.mapM fun f=>(do pure (f.offset,<-sizeOf f.type):Sem (Nat×Nat))) Q w:=by
 intro fs
 induction fs with
 |nil=>intro pQ hm Q w hq;simp[bV]at hm;subst hm;simpa using hq
 |cons f fs ih=>intro pQ hm Q w hq;simp only[List.mapM_cons,bN,bV]at hm;obtain⟨p,⟨n,hn,rfl⟩,l,hl,rfl⟩:=hm;simp only[List.mapM_cons,bG,d3 hn,bO];exact ih hl (by simpa using hq)
theorem RG{E:Value->World->Prop}{t:TypeId}{parts:List (Nat×AV)}{v:AV}(he:build? K.P t parts=.ok v){Q:Value->World->Prop}(hq:Q (v.ev ρ) w):
  wq K.P K.Ev E (Instr.build t (parts.map fun p=>(p.1,p.2.ev ρ)).toArray) Q w:=by
 unfold build? at he;simp only[bN]at he;obtain⟨z,hz,cs,W1,D,hD,he⟩:=he;have hc:=iR W1 ρ;simp only[Instr.build,bG,fR (ρ:=ρ) hz,b_ (dT hD),hc];split at he
 ·rename_i fs;simp only[bN,bV]at he;obtain⟨pQ,hp,r,hr,rfl⟩:=he;have:(fs.mapM fun f=>(do pure (f.offset,<-sizeOf f.type):Sem (Nat×Nat)))=List.toArray<$>(fs.toList.mapM fun f=>(do pure (f.offset,<-sizeOf f.type):Sem (Nat×Nat))):=by
   rw[Array.mapM_eq_mapM_toList]
  simp only[bG];rw[this,Rj];refine J5 hp ?_;have e:=sL (ρ:=ρ) hr;have:(pQ.toArray[·]?:Nat->Option (Nat×Nat))=(pQ[·]?):=by funext i;simp
  simp only[this,bm];rw[e];exact hq
 ·rename_i n elem;simp only[bN,bV]at he;obtain⟨s,hs,r,hr,rfl⟩:=he;simp only[bG,d3 hs];have e:=sL (ρ:=ρ) hr;rw[e];exact hq
 ·cases he
theorem Oh{P:Program}{t:TypeId}{parts:List (Nat×AV)}{v:AV}(he:build? P t parts=.ok v)(hp:∀p∈parts,p.2.In U):v.In U:=by
 unfold build? at he;simp only[bN]at he;obtain⟨z,hz,cs,W1,D,hD,he⟩:=he;have hc:AV.iB U cs:=me W1 (qy hz);split at he
 ·simp only[bN,bV]at he;obtain⟨pQ,_,r,hr,rfl⟩:=he;exact Ay hr hc hp
 ·simp only[bN,bV]at he;obtain⟨s,hs,r,hr,rfl⟩:=he;exact Ay hr hc hp
 ·cases he
end
structure qk(K:ik)(U:Nat->Prop)(ρ:cn)(h:AH)(w:World)(s:Sem Value)(v:AV)(h':AH):Prop where
 mem:v.In (plus U h.nb h'.nb)
 uF:d6 K U h h'
 run:∀{E:Value->World->Prop} {Q:Value->World->Prop},(∀x w',f_ K U ρ w h' (fun bL=>x=v.ev bL) w'->Q x w')->wq K.P K.Ev E s Q w
section
variable {K:ik}{ρ:cn}{h:AH}{w:World}{U:Nat->Prop}
theorem qk.pure(R:Rel K ρ h w)(I:h_ K U h){s:Sem Value}{v:AV}(hi:v.In U)(hw:∀{E Q:Value->World->Prop},Q (v.ev ρ) w->wq K.P K.Ev E s Q w):qk K U ρ h w s v h:=
 ⟨AV.In.mono cG _ hi,d6.refl I,fun hq=>hw (hq _ _ (f_.eL R rfl))⟩
theorem rb{E:Value->World->Prop}{t:TypeId}{v:Value}{cs:Array Value}(hc:v.cells=cs){Q:Addr->World->Prop}(hq:Q ⟨w.heap.size,0,none⟩ {w with heap:=w.heap.push (.cells cs t (0,0))}):wq K.P K.Ev E (newVar t v) Q w:=by simp only[newVar,newRow,bG,jV,hc];exact hq
theorem RH(R:Rel K ρ h w)(I:h_ K U h){elem:TypeId}{z v:AV}{cs:List AV}{h':AH}(hz:zero? K.P elem=.ok z)(hc:z.cells?=.ok cs)(ha:alloc? h (.cells cs elem)=.ok (v,h')):
  qk K U ρ h w (Instr.alloc elem true (.tuple #[])) v h':=by
 obtain⟨_,h1,h2,h3⟩:=qZ R I ha (me hc (qy hz));refine⟨h1,h2,fun{E Q} hq=>?_⟩;simp only[Instr.alloc,bG,fR (ρ:=ρ) hz];refine rb (iR hc ρ) ?_;obtain⟨bL,a1,a2,a3,a4⟩:=h3 (AV.cf ρ cs).toArray (by simp[bM.jg]);exact hq _ _ ⟨bL,a1,a2,a3,a4.symm⟩
theorem acX(R:Rel K ρ h w)(I:h_ K U h){elem:TypeId}{x v:AV}{cs:List AV}{h':AH}(hx:x.In U)(hc:x.cells?=.ok cs)(ha:alloc? h (.cells cs elem)=.ok (v,h')):
  qk K U ρ h w (Instr.box elem (x.ev ρ)) v h':=by
 obtain⟨_,h1,h2,h3⟩:=qZ R I ha (me hc hx);refine⟨h1,h2,fun{E Q} hq=>?_⟩;simp only[Instr.box,bG];refine rb (iR hc ρ) ?_;obtain⟨bL,a1,a2,a3,a4⟩:=h3 (AV.cf ρ cs).toArray (by simp[bM.jg]);exact hq _ _ ⟨bL,a1,a2,a3,a4.symm⟩
theorem Mw{l:List AV}(hl:AV.iB U l):∀n,AV.iB U (G3 n l)
 |0=>trivial
 |n+1=>dg.2 fun a ha=>by
  simp only[G3,ay]at ha;rcases ha with ha|ha
  ·exact dg.1 hl _ ha
  ·exact dg.1 (Mw hl n) _ ha
theorem DF(l:List Value)(hl:0<l.length):∀n:Nat,(List.range (n*l.length)).map (fun i=>l.toArray[i % l.length]!)=(List.replicate n l).flatten
 |0=>by simp
 |n+1=>by
  have e:(n+1)*l.length=l.length+n*l.length:=by rw[Nat.succ_mul,Nat.add_comm]
  rw[e,List.range_add,List.map_append,List.map_map,List.replicate_succ,List.flatten_cons];congr 1
  ·refine List.ext_getElem (by simp) fun i h1 h2=>?_;simp only[bj,bh]at h1;simp[Nat.mod_eq_of_lt h1,aF h1]
  ·rw[<-DF l hl n];refine aY fun i _=>?_;simp
theorem Mx(ρ:cn):∀(n:Nat) (l:List AV),AV.cf ρ (G3 n l)=(List.replicate n (AV.cf ρ l)).flatten
 |0,l=>by simp[G3,AV.cf]
 |n+1,l=>by simp[G3,fp,Mx ρ n l,List.replicate_succ]
theorem Oi(ρ:cn){z:AV}{zc:List AV}{size n:Nat}(hc:z.cells?=.ok zc)(hs:zc.length=size)(h0:0<size):
  (Array.range (n*size)).map (fun i=>(z.ev ρ).cells[i % (z.ev ρ).cells.size]!)=(AV.cf ρ (G3 n zc)).toArray:=by
 rw[iR hc ρ];have hl:(AV.cf ρ zc).length=size:=by rw[dt,hs]
 have h1:(AV.cf ρ zc).toArray.size=size:=by simp[hl]
 rw[h1,Mx];have:=DF (AV.cf ρ zc) (by rw[hl];exact h0) n;rw[hl]at this;rw[<-this];apply bD.1;simp[Array.toList_range]
theorem DG{α:Type}{E:Value->World->Prop}{elem:TypeId}{size n:Nat}{l:List AV}(hz:zeros? K.P elem size n=.ok l){kk:Array Value->Sem α}{Q:α->World->Prop}
 (hq:∀zero:Array Value,(Array.range (n*size)).map (zero[· % zero.size]!)=(AV.cf ρ l).toArray->wq K.P K.Ev E (kk zero) Q w):
  wq K.P K.Ev E (if n*size=0 then(do
   let zero<-Pure.pure #[]
   kk zero)else(do
   let z<-zeroValue elem;let zero<-Pure.pure z.cells
   kk zero)) Q w:=by
 unfold zeros? at hz;split at hz
 ·rename_i h0;cases hz;rw[if_pos h0];exact hq _ (by rw[h0];simp[AV.cf,Array.range])
 ·rename_i h0;simp only[bN]at hz;obtain⟨z,hz,zc,hc,zI⟩:=hz;split at zI
  ·rename_i hs;rw[bV]at zI;subst zI;rw[if_neg h0];simp only[bG,fR (ρ:=ρ) hz,bO];exact hq _ (Oi ρ hc hs (Nat.pos_of_ne_zero fun e=>h0 (by rw[e];simp)))
  ·cases zI
theorem DH{P:Program}{elem:TypeId}{size n:Nat}{l:List AV}(hz:zeros? P elem size n=.ok l):AV.iB U l:=by
 unfold zeros? at hz;split at hz
 ·cases hz;trivial
 ·simp only[bN]at hz;obtain⟨z,hz,zc,hc,zI⟩:=hz;split at zI
  ·rw[bV]at zI;subst zI;exact Mw (me hc (qy hz)) _
  ·cases zI
theorem pw{P:Program}{t:TypeId}{n:Nat}(h:bytesOf? P t=.ok n):∃i,P.info? t=some i∧i.bytes=n:=by
 unfold bytesOf? at h;split at h
 ·rename_i i hi;exact⟨i,hi,by simpa using h⟩
 ·cases h
theorem CW(R:Rel K ρ h w)(I:h_ K U h){t:TypeId}{len:Nat}{parts:List (Nat×AV)}{v:AV}{h':AH}(hp:∀p∈parts,p.2.In U)(he:buildSlice? K.P h t len parts=.ok (v,h')):
  qk K U ρ h w (Instr.buildSlice t len (parts.map fun p=>(p.1,p.2.ev ρ)).toArray) v h':=by
 unfold buildSlice? at he;simp only[bN]at he;obtain⟨D,hD,he⟩:=he;split at he
 ·rename_i elem;simp only[bN]at he;obtain⟨size,hs,he⟩:=he;split at he
  ·cases he
  ·rename_i dI;simp only[bN]at he;obtain⟨z,hz,cells,hc,ha⟩:=he;have hin:AV.iB U cells:=Ay hc (DH hz) hp;obtain⟨h1,h2,h3⟩:=k9 R I ha hin trivial trivial;refine⟨h1,h2,fun{E Q} hq=>?_⟩;simp only[Instr.buildSlice,bG,b_ (dT hD),d3 hs];rw[if_neg (by simp only[gt_iff_lt,Nat.not_lt];omega)];refine DG (ρ:=ρ) hz fun zero RI=>?_;rw[RI,sL (ρ:=ρ) hc];simp only[newRow,bG,jV,bO];obtain⟨bL,a1,a2,a3,a4⟩:=h3 (AV.cf ρ cells).toArray (by simp[bM.jg]);exact hq _ _ ⟨bL,a1,a2,a3,a4.symm⟩
 ·cases he
theorem Fi(G:K.Good)(R:Rel K ρ h w)(I:h_ K U h){t:TypeId}{l c v:AV}{h':AH}(he:makeSlice? K.P h t l c=.ok (v,h')):
  qk K U ρ h w (Instr.makeSlice t (l.ev ρ) (c.ev ρ)) v h':=by
 unfold makeSlice? at he;simp only[bN]at he;obtain⟨D,hD,he⟩:=he;split at he
 ·rename_i elem;split at he
  ·rename_i k1 l k2 c;simp only[bN]at he;obtain⟨l',hl,c',hc,size,hs,bytes,hb,he⟩:=he;obtain rfl:=jB hl;obtain rfl:=jB hc;split at he
   ·rename_i hle;obtain⟨hlc,W3,Fj⟩:=hle;simp only[bN]at he;obtain⟨cells,hz,ha⟩:=he;obtain⟨i,hi,RJ⟩:=pw hb;obtain⟨h1,h2,h3⟩:=k9 R I ha (DH hz) trivial trivial;refine⟨h1,h2,fun{E Q} hq=>?_⟩;have wl:IntKind.i64.wrap (Int.ofNat l')=l':=IntWalk.i64_in _ ⟨by have:(0:Int)≤Int.ofNat l':=Int.natCast_nonneg _;omega,by have:Int.ofNat l'≤(1048576:Nat):=Int.ofNat_le.2 (bp hlc W3);omega⟩;have wc:IntKind.i64.wrap (Int.ofNat c')=c':=IntWalk.i64_in _ ⟨by have:(0:Int)≤Int.ofNat c':=Int.natCast_nonneg _;omega,by have:Int.ofNat c'≤(1048576:Nat):=Int.ofNat_le.2 W3;omega⟩;have ao6:bytes*c'≤68719476736:=Nat.mul_le_mul Fj W3;have ail:((i.bytes:Int)*(c':Int))≤68719476736:=by rw[RJ,<-Int.natCast_mul];exact Int.ofNat_le.2 ao6
    simp only[Instr.makeSlice,AV.ev,IE.ev,asInt,asIntOf,bG,b_ (dT hD),bO,dZ hi,wl,wc];have Hl:(((decide ((c':Int)<0)||decide ((i.bytes:Int)*(c':Int)>2 ^ 48))||decide ((l':Int)<0))||decide ((l':Int)>(c':Int)))=false:=by
     have hp:(2:Int) ^ 48=281474976710656:=by decide
     rw[hp];simp only[Bool.or_eq_false_iff,decide_eq_false_iff_not];refine⟨⟨⟨by omega,by omega⟩,by omega⟩,by omega⟩
    rw[if_neg (by rw[Hl];simp)];have ask:∀{Q':Unit->World->Prop},Q' () w->wq K.P K.Ev E (askRoom (((c':Int)).toNat*i.bytes)) Q' w:=by
     intro Q' km;unfold askRoom;simp only[iF,pp,bO];split
     ·exact⟨G.noRoom,km⟩
     ·exact km
    simp only[bG,bO];refine ask ?_;simp only[d3 hs,ap];refine DG (ρ:=ρ) hz fun zero RI=>?_;rw[RI];simp only[newRow,bG,jV,bO];obtain⟨bL,a1,a2,a3,a4⟩:=h3 (AV.cf ρ cells).toArray (by simp[bM.jg]);exact hq _ _ ⟨bL,a1,a2,a3,a4.symm⟩
   ·cases he
  ·cases he
 ·cases he
theorem J6(G:K.Good)(R:Rel K ρ h w)(I:h_ K U h){t:TypeId}{l c v:AV}{h':AH}(hcU:c.In U)(he:makeRow? K.P K.O h t l c=.ok (v,h')):
  qk K U ρ h w (Instr.makeSlice t (l.ev ρ) (c.ev ρ)) v h':=by
 unfold makeRow? at he;simp only[bN]at he;obtain⟨D,hD,he⟩:=he;split at he
 ·rename_i elem;split at he
  ·rename_i k1 l k2 c;simp only[bN]at he;obtain⟨z,hz,size,hs,bytes,hb,neg,ao7,big,ao8,he⟩:=he;split at he
   ·rename_i hle;obtain⟨hlc,hn,hg,Fj⟩:=hle;subst hn;subst hg;obtain rfl:=IE.dG hlc;obtain⟨i,hi,RJ⟩:=pw hb;obtain⟨h1,h2,h3⟩:=k9 R I he (b:=.row [] elem l) ⟨trivial,hcU⟩ hcU hcU;refine⟨h1,h2,fun{E Q} hq=>?_⟩;have c0:¬l.ev ρ<0:=Fg R ao7 (by simp);have c1:decide (l.ev ρ>1048576)=false:=pT R ao8;have c1':¬l.ev ρ>1048576:=of_decide_eq_false c1;generalize hL:l.ev ρ=n at c0 c1';have wl:IntKind.i64.wrap n=n:=IntWalk.i64_in _ ⟨by omega,by omega⟩;have ail:((i.bytes:Int)*n)≤65536*1048576:=Int.mul_le_mul (by rw[RJ];exact Int.ofNat_le.2 Fj) (by omega) (by omega) (by decide);simp only[Instr.makeSlice,AV.ev,asInt,asIntOf,bG,b_ (dT hD),bO,dZ hi,hL,wl];have Hl:(((decide (n<0)||decide ((i.bytes:Int)*n>2 ^ 48))||decide (n<0))||decide (n>n))=false:=by
     have hp:(2:Int) ^ 48=281474976710656:=by decide
     rw[hp];simp only[Bool.or_eq_false_iff,decide_eq_false_iff_not];refine⟨⟨⟨c0,by omega⟩,c0⟩,by omega⟩
    rw[if_neg (by rw[Hl];simp)];have ask:∀{Q':Unit->World->Prop},Q' () w->wq K.P K.Ev E (askRoom (n.toNat*i.bytes)) Q' w:=by
     intro Q' km;unfold askRoom;simp only[iF,pp,bO];split
     ·exact⟨G.noRoom,km⟩
     ·exact km
    simp only[bG,bO];refine ask ?_;simp only[d3 hs];have ky:∀zero:Array Value,wq K.P K.Ev E (do
      let a<-newRow elem ((Array.range (n.toNat*size)).map (zero[· % zero.size]!))
      pure (.slice (some a) n.toNat n.toNat)) Q w:=by
     intro zero;simp only[newRow,bG,jV,bO];obtain⟨bL,a1,a2,a3,a4⟩:=h3 ((Array.range (n.toNat*size)).map (zero[· % zero.size]!)) (by obtain⟨i',nN,vS⟩:=ow hs;refine⟨_,i',(aA _).symm,nN,?_⟩;rw[hL,vS];simp)
     rw[hL]at a4;exact hq _ _ ⟨bL,a1,a2,a3,a4.symm⟩
    by_cases h0:n.toNat*size=0
    ·rw[if_pos h0];exact ky #[]
    ·rw[if_neg h0];simp only[bG,fR (ρ:=ρ) hz,bO];exact ky _
   ·cases he
  ·cases he
 ·cases he
theorem CX(G:K.Good)(R:Rel K ρ h w)(I:h_ K U h){t:TypeId}{l c v:AV}{h':AH}(hcU:c.In U)(he:makeSliceS? K.P K.O h t l c=.ok (v,h')):
  qk K U ρ h w (Instr.makeSlice t (l.ev ρ) (c.ev ρ)) v h':=by
 unfold makeSliceS? at he;split at he
 ·exact Fi G R I he
 ·exact J6 G R I hcU he
end
section
variable {K:ik}{ρ:cn}{h:AH}{w:World}{U:Nat->Prop}
theorem px(G:K.Good){E:Value->World->Prop}{b:Nat}(ho:K.own b){e:TypeId}:∀{l:List Value} {off j:Nat} {arr:Array Value} {w:World},(∀n,off+j≤n->¬K.still b n)->w.heap[b]?=some (.cells arr e (0,0))->off+j+l.length≤arr.size->(∀v∈l,v.oneCell'=true)->
  ∀{Q:Unit->World->Prop},(∀w' (ja:Array Value),w'.heap[b]?=some (.cells ja e (0,0))->(∀n,n≠b->w'.heap[n]?=w.heap[n]?)->w'.heap.size=w.heap.size->w'.tape=w.tape->w'.os=w.os->w'.output=w.output->
   ja.size=arr.size->(∀n,n<off+j->ja[n]?=arr[n]?)->(∀n,n<l.length->ja[off+j+n]?=l[n]?)->Q () w')->wq K.P K.Ev E (storeCells ⟨b,off,none⟩ l j) Q w:=by
 intro l
 induction l with
 |nil=>intro off j arr w xw hb hle _ Q hq;exact hq w arr hb (fun _ _=>rfl) rfl rfl rfl rfl rfl (fun _ _=>rfl) (fun n hn=>by simp at hn)
 |cons v l ih=>
  intro off j arr w xw hb hle pb Q hq;simp only[bd]at hle;simp only[storeCells,bG];rw[v_];have ha:(⟨b,off,none⟩:Addr).add j=⟨b,off+j,none⟩:=by unfold Addr.add;split<;>simp_all
  rw[ha];have dU:off+j<arr.size:=by omega
  refine⟨pb v (by simp),⟨_,(j9 hb).trans (aT dU)⟩,jA hb,G.wr _ _ ho (xw _ (aq _)),?_⟩;have qj:(w.setCell ⟨b,off+j,none⟩ v).heap[b]?=some (.cells (arr.setIfInBounds (off+j) v) e (0,0)):=by rw[d5,if_pos rfl,hb];rfl
  refine ih (arr:=arr.setIfInBounds (off+j) v) (fun n hn=>xw n (by omega)) qj (by simp;omega) (fun u hu=>pb u (am _ hu)) ?_;intro w' ja q1 q2 q3 q4 q5 q6 q7 q8 q9;refine hq w' ja q1 (fun n hn=>?_) (q3.trans (fQ _ _ _)) q4 q5 q6 (by rw[q7];simp) (fun n hn=>?_) (fun n hn=>?_)
  ·rw[q2 n hn,d5,if_neg hn]
  ·rw[q8 n (by omega),aC (by omega)]
  ·cases n with
   |zero=>rw[Nat.add_zero,q8 (off+j) (by omega)];simp[dU]
   |succ n=>have:=q9 n (by simp at hn;omega);rw[List.getElem?_cons_succ,<-this];congr 1;omega
theorem nv{need cap bytes:Nat}(h1:cap<need)(h2:need≤1048576)(h3:bytes≤1024):¬Builtin.nextslicecap need cap*bytes>2 ^ 48:=by have:=nextslicecap_le h1;have h4:Builtin.nextslicecap need cap*bytes≤2097152*1024:=Nat.mul_le_mul (by omega) h3;omega
theorem yE{new:List AV}(h1:new.all (·.oneCell?)=true)(ρ:cn):∀v∈AV.cf ρ new,v.oneCell'=true:=by rw[jT];intro v hv;obtain⟨a,ha,rfl⟩:=aJ.1 hv;exact qW (aO.1 h1 a ha) ρ
theorem wn{O:dP}{size:Nat}{x:AV}{n:Nat}{new:List AV}(ha:appArgs? O h size x=.ok (n,new)):new.length=n*size:=by
 unfold appArgs? at ha;split at ha
 ·split at ha
  ·cases ha;simp
  ·cases ha
 ·simp only[bN,bV]at ha;obtain⟨m,hm,l,hl,e⟩:=ha;cases e;exact wi hl
 ·split at ha
  ·rename_i h1;cases ha;simp[h1]
  ·cases ha
 ·cases ha
theorem yF(I:h_ K U h){size:Nat}{x:AV}{n:Nat}{new:List AV}(ha:appArgs? K.O h size x=.ok (n,new)):AV.iB U new:=by
 unfold appArgs? at ha;split at ha
 ·split at ha
  ·cases ha;trivial
  ·cases ha
 ·simp only[bN,bV]at ha;obtain⟨m,hm,l,hl,e⟩:=ha;cases e;exact wg I hl
 ·split at ha
  ·cases ha;exact dg.2 fun a ha=>by obtain⟨c,_,rfl⟩:=aJ.1 ha;trivial
  ·cases ha
 ·cases ha
theorem Hm{E:Value->World->Prop}{O:dP}{size:Nat}{x:AV}{n:Nat}{new:List AV}(ha:appArgs? O h size x=.ok (n,new)){Q:Nat->World->Prop}(hq:Q n w):wq K.P K.Ev E (Builtin.lenOf (x.ev ρ)) Q w:=by
 unfold appArgs? at ha;split at ha
 ·split at ha
  ·cases ha;exact hq
  ·cases ha
 ·simp only[bN,bV]at ha;obtain⟨m,hm,l,hl,e⟩:=ha;cases e;obtain rfl:=jB hm;exact hq
 ·split at ha
  ·cases ha;exact hq
  ·cases ha
 ·cases ha
theorem uG(R:Rel K ρ h w)(G:K.Good){E:Value->World->Prop}{size:Nat}{x:AV}{n:Nat}{new:List AV}(ha:appArgs? K.O h size x=.ok (n,new)){Q:Array Value->World->Prop}(hq:Q (AV.cf ρ new).toArray w):
  wq K.P K.Ev E (Builtin.firstCells size n (x.ev ρ)) Q w:=by
 unfold appArgs? at ha;split at ha
 ·split at ha
  ·cases ha;exact hq
  ·cases ha
 ·simp only[bN,bV]at ha;obtain⟨m,hm,l,hl,e⟩:=ha;cases e;simp only[AV.ev,af,Builtin.firstCells,loadCells];exact mP R G hl (by simpa using hq)
 ·split at ha
  ·rename_i t h1;cases ha;simp only[AV.ev,Builtin.firstCells,bO];have:(t.extract 0 t.size).data.map (fun b=>Value.int .u8 b.toNat)=(AV.cf ρ (t.data.toList.map fun c=>AV.int .u8 (.lit c.toNat))).toArray:=by
    have e0:t.extract 0 t.size=t:=ByteArray.extract_zero_size;rw[e0,jT,List.map_map];apply bD.1;simp[AV.ev,IE.ev]
   rw[this];exact hq
  ·cases ha
 ·cases ha
theorem rV(R:Rel K ρ h w)(I:h_ K U h){old:Option Nat}{cs:List AV}{elem:TypeId}{len:Nat}{v:AV}{h':AH}(ha:allocRow? h old cs elem len=.ok (v,h'))(hc:AV.iB U cs):
  v.In (plus U h.nb h'.nb)∧d6 K U h h'∧∀(m:Nat) (c:Nat) (w':World) (arr:Array Value) (rest:List Value) (i:TypeInfo),cE K.own w w'->w'.heap[m]?=some (.cells arr elem (0,0))->(K.own m∧∀n,¬K.still m n)->Rel K ρ (match old with|some i=>{h with hp:=j8 i h.hp}|none=>h) w'->
   (∀j b,cV j (match old with|some i=>j8 i h.hp|none=>h.hp)=some b->ρ.b j≠m)->arr.toList=AV.cf ρ cs++rest->K.P.info? elem=some i->arr.size=c*i.size->
   f_ K U ρ w h' (fun bL=>v.ev bL=.slice (some ⟨m,0,none⟩) len c) w':=by
 obtain⟨hp,nb,eH⟩:=h;simp only[allocRow?]at ha;split at ha
 ·rename_i dU;cases ha;have CQ:¬U nb:=I.fresh _ (aq _) dU;have hin:bM.In (plus U nb (nb+1)) (.row cs elem (.var nb)):=⟨AV.iB.mono cG _ hc,.inr ⟨aq _,a_ _⟩⟩;refine⟨⟨⟨.inr ⟨aq _,a_ _⟩,trivial⟩,trivial,.inr ⟨aq _,a_ _⟩⟩,?_,?_⟩
  ·cases old with
   |none=>exact⟨Nat.le_succ _,rfl,I.Wv dU hin⟩
   |some i=>exact⟨Nat.le_succ _,rfl,(I.drop i).Wv dU hin⟩
  ·intro m c w' arr rest no hk hm ho R' df wo acY hsz;have hf:(bM.row cs elem (.var nb)).jg K.P (ρ.upd nb m c) arr:=⟨rest,no,by rw[AV.f8 (gZ CQ) cs hc];exact wo,acY,by simpa[IE.ev,cn.upd] using hsz⟩;refine⟨ρ.upd nb m c,gZ CQ,?_,hk,?_⟩
   ·cases old with
    |none=>exact Rel.Wv R' I dU hm ho.1 df ho.2 hf
    |some i=>exact Rel.Wv R' (I.drop i) dU hm ho.1 df ho.2 hf
   ·simp[AV.ev,AA.ev,BR.ev,IE.ev,cn.upd]
 ·cases ha
theorem My(G:K.Good)(R:Rel K ρ h w){E:Value->World->Prop}{elem:TypeId}{i:TypeInfo}{z:AV}{zc:List AV}{need J7 sLen n size:Nat}{s x:Value}{old new:List AV}(hi:K.P.info? elem=some i)(hsz:i.size=size)(hz:zero? K.P elem=.ok z)(hc:z.cells?=.ok zc)(W4:zc.length=size)
 (ze:∀{Q':Array Value->World->Prop} {w':World},Rel K ρ h w'->Q' (AV.cf ρ old).toArray w'->wq K.P K.Ev E (Builtin.firstCells size sLen s) Q' w')
 (iS:∀{Q':Array Value->World->Prop} {w':World},Rel K ρ h w'->Q' (AV.cf ρ new).toArray w'->wq K.P K.Ev E (Builtin.firstCells size n x) Q' w')
 (dI:(old++new).length=need*size)(ain:need≤1048576){Q:Value->World->Prop}
 (hq:∀(d8:Nat) (w0:World) (arr:Array Value) (rest:List Value),w0.heap=w.heap->w0.tape=w.tape->w0.os=w.os->w0.output=w.output->arr.toList=AV.cf ρ (old++new)++rest->arr.size=d8*size->need≤d8->
   Q (.slice (some ⟨w.heap.size,0,none⟩) need d8) {w0 with heap:=w0.heap.push (.cells arr elem (0,0))}):
  wq K.P K.Ev E (do
   let d8<-choose (.appendCap need J7 elem)
   askRoom (d8*(<-typeInfo elem).bytes)
   let old<-Builtin.firstCells size sLen s;let new<-Builtin.firstCells size n x;let rest:=Builtin.zeroCells (<-zeroValue elem).cells (d8-need)
   Pure.pure (.slice (some (<-newRow elem (old++new++rest))) need d8)) Q w:=by
 simp only[bG];rw[tV];rw[if_neg (by simp[Question.forced])];intro nn;simp only[dZ hi];have ask:∀{m:Nat} {Q':Unit->World->Prop} {w':World},Q' () w'->wq K.P K.Ev E (askRoom m) Q' w':=by
  intro m Q' w' km;unfold askRoom;simp only[iF,pp,bO];split
  ·exact⟨G.noRoom,km⟩
  ·exact km
 refine ask ?_;have R':Rel K ρ h {w with drawn:=w.drawn+1}:=R.at rfl;refine ze R' ?_;refine iS R' ?_;simp only[fR (ρ:=ρ) hz,newRow,bG,jV,bO];have AC:need≤Question.cut (.appendCap need J7 elem) nn:=by simp only[Question.cut];omega
 generalize W5:Question.cut (.appendCap need J7 elem) nn=d8 at AC;refine hq d8 {w with drawn:=w.drawn+1} _ (Builtin.zeroCells (z.ev ρ).cells (d8-need)).toList rfl rfl rfl rfl ?_ ?_ AC
 ·simp[fp]
 ·have e1:(z.ev ρ).cells.size=size:=by rw[iR hc ρ];simp[dt,W4]
  have e2:old.length+new.length=need*size:=by simpa using dI
  simp only[Array.size_append,Builtin.zeroCells,Array.size_map,Array.size_range,List.size_toArray,dt,e1];rw[e2,<-Nat.add_mul];congr 1;omega
end
section
variable {K:ik}{ρ:cn}{h:AH}{w:World}{U:Nat->Prop}
theorem Oj{a:AA}{v:AV}{h':AH}(hs:qU h a v=.ok h'):h'.nb=h.nb∧h'.eH=h.eH:=by
 unfold qU at hs;split at hs
 ·split at hs
  ·split at hs
   ·cases hs;exact⟨rfl,rfl⟩
   ·cases hs
  ·cases hs
 ·cases hs
theorem Ok{a:AA}{v:AV}{h':AH}(hs:iQ h a v=.ok h'):h'.nb=h.nb∧h'.eH=h.eH:=by
 unfold iQ at hs;split at hs
 ·rename_i h1 hh;cases hs;exact Oj hh
 ·split at hs
  ·rename_i h1 hh;cases hs;unfold preSet? at hh;split at hh
   ·split at hh
    ·split at hh
     ·split at hh
      ·cases hh;exact⟨rfl,rfl⟩
      ·cases hh
     ·cases hh
    ·cases hh
   ·cases hh
  ·cases hs
theorem xK{a:AA}:∀{l:List AV} {j:Nat} {h h':AH},l_ h a l j=.ok h'->h'.nb=h.nb∧h'.eH=h.eH:=by
 intro l
 induction l with
 |nil=>intro j h h' hs;simp[l_]at hs;subst hs;exact⟨rfl,rfl⟩
 |cons v l ih=>
  intro j h h' hs;simp only[l_]at hs;split at hs
  ·rename_i h1 hh1;have a1:=Ok hh1;have a2:=ih hs;exact⟨a2.1.trans a1.1,a2.2.trans a1.2⟩
  ·cases hs
theorem d6.zJ{h':AH}(I':h_ K U h')(e1:h'.nb=h.nb)(e2:h'.eH=h.eH):d6 K U h h':=
 ⟨by omega,e2,I'.congr fun n=>⟨.inl,fun x=>x.elim id fun x=>by omega⟩⟩
theorem AF(ρ:cn)(m:IE)(k:Nat):((jP m k).ev ρ).toNat=(m.ev ρ).toNat+k:=by
 unfold jP;split
 ·simp
 ·simp only[IE.ev];simp;omega
theorem J8{m:IE}(k:Nat)(h:m.In U):(jP m k).In U:=by
 unfold jP;split
 ·exact h
 ·exact⟨h,trivial⟩
theorem xL(G:K.Good){E:Value->World->Prop}{b:Nat}(ho:K.own b){arr:Array Value}{e:TypeId}{w:World}(hb:w.heap[b]?=some (.cells arr e (0,0))):∀{n j:Nat} {gG:Array Value},j+n≤arr.size->
  ∀{Q:Array Value->World->Prop},Q (gG++((arr.toList.drop j).take n).toArray) w->wq K.P K.Ev E (loadCellsFrom ⟨b,0,none⟩ j n gG) Q w:=by
 intro n
 induction n with
 |zero=>intro j gG hj Q hq;simpa[loadCellsFrom] using hq
 |succ n ih=>
  intro j gG hj Q hq;simp only[loadCellsFrom,bG];rw[v9];have ha:(⟨b,0,none⟩:Addr).add j=⟨b,j,none⟩:=by unfold Addr.add;split<;>simp_all
  rw[ha];have dU:j<arr.size:=by omega
  refine⟨_,(j9 hb).trans (aT dU),G.rd _ _ ho,ih (by omega) ?_⟩;have:(arr.toList.drop j).take (n+1)=arr[j]::(arr.toList.drop (j+1)).take n:=by rw[List.drop_eq_getElem_cons (by simpa using dU),List.take_succ_cons];rfl
  rw[this]at hq;simpa using hq
theorem RL(G:K.Good)(R:Rel K ρ h w){E:Value->World->Prop}{elem:TypeId}{i:TypeInfo}{z:AV}{zc:List AV}{need J7 sLen n size:Nat}{s x:Value}{old new:List Value}(hi:K.P.info? elem=some i)(hsz:i.size=size)(hz:zero? K.P elem=.ok z)(hc:z.cells?=.ok zc)(W4:zc.length=size)
 (ze:∀{Q':Array Value->World->Prop} {w':World},w'.heap=w.heap->Q' old.toArray w'->wq K.P K.Ev E (Builtin.firstCells size sLen s) Q' w')
 (iS:∀{Q':Array Value->World->Prop} {w':World},Rel K ρ h w'->Q' new.toArray w'->wq K.P K.Ev E (Builtin.firstCells size n x) Q' w')
 (dI:(old++new).length=need*size)(ain:need≤1048576){Q:Value->World->Prop}
 (hq:∀(d8:Nat) (w0:World) (arr:Array Value) (rest:List Value),w0.heap=w.heap->w0.tape=w.tape->w0.os=w.os->w0.output=w.output->arr.toList=old++new++rest->arr.size=d8*size->need≤d8->
   Q (.slice (some ⟨w.heap.size,0,none⟩) need d8) {w0 with heap:=w0.heap.push (.cells arr elem (0,0))}):
  wq K.P K.Ev E (do
   let d8<-choose (.appendCap need J7 elem)
   askRoom (d8*(<-typeInfo elem).bytes)
   let old<-Builtin.firstCells size sLen s;let new<-Builtin.firstCells size n x;let rest:=Builtin.zeroCells (<-zeroValue elem).cells (d8-need)
   Pure.pure (.slice (some (<-newRow elem (old++new++rest))) need d8)) Q w:=by
 simp only[bG];rw[tV];rw[if_neg (by simp[Question.forced])];intro nn;simp only[dZ hi];have ask:∀{m:Nat} {Q':Unit->World->Prop} {w':World},Q' () w'->wq K.P K.Ev E (askRoom m) Q' w':=by
  intro m Q' w' km;unfold askRoom;simp only[iF,pp,bO];split
  ·exact⟨G.noRoom,km⟩
  ·exact km
 refine ask ?_;have R':Rel K ρ h {w with drawn:=w.drawn+1}:=R.at rfl;refine ze rfl ?_;refine iS R' ?_;simp only[fR (ρ:=ρ) hz,newRow,bG,jV,bO];have AC:need≤Question.cut (.appendCap need J7 elem) nn:=by simp only[Question.cut];omega
 generalize W5:Question.cut (.appendCap need J7 elem) nn=d8 at AC;refine hq d8 {w with drawn:=w.drawn+1} _ (Builtin.zeroCells (z.ev ρ).cells (d8-need)).toList rfl rfl rfl rfl ?_ ?_ AC
 ·simp
 ·have e1:(z.ev ρ).cells.size=size:=by rw[iR hc ρ];simp[dt,W4]
  have e2:old.length+new.length=need*size:=by simpa using dI
  simp only[Array.size_append,Builtin.zeroCells,Array.size_map,Array.size_range,List.size_toArray,e1];rw[e2,<-Nat.add_mul];congr 1;omega
theorem Fk{E Q:Value->World->Prop}{argTypes:Array TypeId}{ty yA xType elem:TypeId}{X:TypeDesc}{base:Option AA}{sl sc:IE}{x:AV}{n size bytes:Nat}{new:List AV}{o_:TypeInfo}(h0:argTypes[0]?=some yA)(h1:argTypes[1]?=some xType)
 (hX:under? K.P xType=.ok X)(hXn:∀k,X=.int k->False)(hS:under? K.P yA=.ok (.slice elem))(hsz:sizeOf? K.P elem=.ok size)(j0:K.P.info? elem=some o_)(RJ:o_.bytes=bytes)(GV:0<bytes)(J9:bytes≤1024)(iS:appArgs? K.O h size x=.ok (n,new))
 (yG:(sl.ev ρ).toNat+n≤1048576)
 (hq:wq K.P K.Ev E (if(sl.ev ρ).toNat+n≤(sc.ev ρ).toNat then(do
    let new<-Builtin.firstCells size n (x.ev ρ)
    match base.map (AA.ev ρ)with
    |some a=>do
     storeCells (a.add ((sl.ev ρ).toNat*size)) new.toList
     Pure.pure (.slice (base.map (AA.ev ρ)) ((sl.ev ρ).toNat+n) (sc.ev ρ).toNat)
    |none=>Pure.pure (.slice (base.map (AA.ev ρ)) ((sl.ev ρ).toNat+n) (sc.ev ρ).toNat))
   else(do
    let d8<-choose (.appendCap ((sl.ev ρ).toNat+n) (sc.ev ρ).toNat elem)
    askRoom (d8*(<-typeInfo elem).bytes)
    let old<-Builtin.firstCells size (sl.ev ρ).toNat (.slice (base.map (AA.ev ρ)) (sl.ev ρ).toNat (sc.ev ρ).toNat);let new<-Builtin.firstCells size n (x.ev ρ);let rest:=Builtin.zeroCells (<-zeroValue elem).cells (d8-((sl.ev ρ).toNat+n))
    Pure.pure (.slice (some (<-newRow elem (old++new++rest))) ((sl.ev ρ).toNat+n) d8))) Q w):
  wq K.P K.Ev E (Builtin.append_ argTypes ty #[(AV.slice base sl sc).ev ρ,x.ev ρ]) Q w:=by
 have hX':=dT hX;clear hX;unfold Builtin.append_;simp only[h0,h1,bw,List.getElem?_cons_zero,List.getElem?_cons_succ,bG,b_ (dT hS),d3 hsz,b_ hX',bO,AV.ev];cases X<;>first
  |exact absurd rfl (hXn _)
  |skip
 all_goals simp only[aR,if_false]
 all_goals rw[bG]
 all_goals refine Hm iS ?_
 all_goals simp only[Bool.not_false,if_true]
 all_goals by_cases hc:(sl.ev ρ).toNat+n≤(sc.ev ρ).toNat
 all_goals first
  |(rw[if_pos hc]at hq⊢;cases base<;>exact hq)
  |(rw[if_neg hc]at hq⊢;rw[bG,dZ j0];rw[if_neg (by rw[RJ];intro hh;exact hh.2.elim id (fun h3=>by omega))];rw[bG,dZ j0];rw[if_neg (by rw[RJ];exact nv (by omega) yG J9)];exact hq)
theorem zg(R:Rel K ρ h w)(I:h_ K U h){old s:Nat}{lk:Bool}{n:IE}{fs ws:List (IE×AV)}{cs:List AV}{elem:TypeId}{len:IE}{v:AV}{h':AH}(ha:allocPre? h old lk s n fs ws cs elem len=.ok (v,h'))(hc:(bM.cH lk s n fs ws cs elem (.lit 0)).In U)(hl:len.In U):
  v.In (plus U h.nb h'.nb)∧d6 K U h h'∧∀(m:Nat) (c:Nat) (w':World) (arr cH:Array Value) (rest:List Value) (i:TypeInfo),cE K.own w w'->w'.heap[m]?=some (.cells arr elem (0,0))->(K.own m∧∀k,K.still m k->lk=true∧∃i,K.P.info? elem=some i∧k<(n.ev ρ).toNat*i.size)->Rel K ρ {h with hp:=j8 old h.hp} w'->
   (∀j b,cV j (j8 old h.hp)=some b->ρ.b j≠m)->Aq K.P ρ s n fs ws elem i cH->arr.toList=dF ρ cH.toList ws++(AV.cf ρ cs++rest)->arr.size=c*i.size->
   f_ K U ρ w h' (fun bL=>v.ev bL=.slice (some ⟨m,0,none⟩) (len.ev ρ).toNat c) w':=by
 obtain⟨hp,nb,eH⟩:=h;simp only[allocPre?]at ha;split at ha
 ·rename_i dU;cases ha;have CQ:¬U nb:=I.fresh _ (aq _) dU;have hnb:plus U nb (nb+1) nb:=.inr ⟨aq _,a_ _⟩;have GW:=bM.In.mono (cG (U:=U) (a:=nb) (b:=nb+1)) hc;have hin:bM.In (plus U nb (nb+1)) (.cH lk s n fs ws cs elem (.var nb)):=⟨GW.1,GW.2.1,GW.2.2.1,GW.2.2.2.1,hnb⟩;refine⟨⟨⟨hnb,trivial⟩,IE.In.mono cG hl,hnb⟩,⟨Nat.le_succ _,rfl,(I.drop old).Wv dU hin⟩,?_⟩;intro m c w' arr cH rest no hk hm ho R' df hp wo hsz;have A:cz U ρ (ρ.upd nb m c):=gZ CQ;have hf:(bM.cH lk s n fs ws cs elem (.var nb)).jg K.P (ρ.upd nb m c) arr:=
   ⟨cH,rest,no,hp.bE A hc.1 hc.2.1 hc.2.2.1,by rw[sG A _ hc.2.2.1,AV.f8 A cs hc.2.2.2.1];exact wo,by simpa[IE.ev,cn.upd] using hsz⟩
  refine⟨ρ.upd nb m c,A,Rel.aig R' (I.drop old) dU hm ho.1 df (fun k vg=>by have:=ho.2 k vg;rw[<-IE.cu A hc.1]at this;exact this) (.inl ⟨arr,rfl,hf⟩),hk,?_⟩;have:(len.ev (ρ.upd nb m c))=len.ev ρ:=IE.cu A hl;simp[AV.ev,AA.ev,BR.ev,IE.ev,cn.upd]at this⊢;rw[<-this]
 ·cases ha
theorem Ol(G:K.Good)(R:Rel K ρ h w)(I:h_ K U h){argTypes:Array TypeId}{ty yA xType elem:TypeId}{X:TypeDesc}{base:Option AA}{sl sc:IE}{x z:AV}{zc:List AV}{n size bytes:Nat}{new:List AV}{v:AV}{h':AH}(h0:argTypes[0]?=some yA)(h1:argTypes[1]?=some xType)
 (hX:under? K.P xType=.ok X)(hXn:∀k,X=.int k->False)(hS:under? K.P yA=.ok (.slice elem))(hsz:sizeOf? K.P elem=.ok size)(hz:zero? K.P elem=.ok z)(hzc:z.cells?=.ok zc)(Fl:bytesOf? K.P elem=.ok bytes)(W4:zc.length=size)(hs0:0<size)(GV:0<bytes)(J9:bytes≤1024)
 (iS:appArgs? K.O h size x=.ok (n,new))(jc:new.all (·.oneCell?)=true)(hs:(AV.slice base sl sc).In U)(he:appPre? K.O h base sl sc n size new elem=.ok (v,h')):
  qk K U ρ h w (Builtin.append_ argTypes ty #[(AV.slice base sl sc).ev ρ,x.ev ρ]) v h':=by
 have JQ:=wn iS;have Jy:=yF I iS;obtain⟨o_,j0,RJ⟩:=pw Fl;obtain⟨RM,AG,his⟩:=ow hsz;obtain rfl:o_=RM:=by rw[j0]at AG;exact au AG
 have J_:o_.size=size:=by rw[<-his]
 have pb:=yE jc ρ;unfold appPre? at he;split at he
 rotate_left
 ·cases he
 rename_i a;split at he
 rotate_left
 ·cases he
 rename_i i Hn pU;split at he
 rotate_left
 ·cases he
 rename_i lk s m fs ws cs e c' jp;split at he
 rotate_left
 ·cases he
 rename_i hok;unfold preOk? at hok;simp only[ax,decide_eq_true_eq]at hok;obtain⟨⟨⟨⟨hee,Jz⟩,hk⟩,hsl⟩,ac1⟩:=hok;have ac2:=hee.symm;subst ac2;have ac3:=IE.dG Jz;subst ac3;have vg:=aI hk;have ac4:=IE.dG hsl;subst ac4;generalize hkk:cs.length / size=k at*;have yG:((jP m k).ev ρ).toNat+n≤1048576:=by
  split at ac1
  ·rename_i b hd;subst ac1;have:=pT R hd;have h2:((((jP m k).ev ρ).toNat:Int)+(n:Int)≤1048576):=of_decide_eq_true this;omega
  ·cases ac1
 have aiq:((jP m k).ev ρ).toNat=(m.ev ρ).toNat+k:=AF ρ m k;obtain⟨arr,ha1,cH,rest,i1,hp,Ru,Ww⟩:=R.arr jp rfl;obtain rfl:o_=i1:=by have:=hp.o_;rw[j0]at this;exact au this
 have fu:=R.own _ _ jp rfl;have xw:∀k,K.still (ρ.b i) k->lk=true∧∃i,K.P.info? elem=some i∧k<(m.ev ρ).toNat*i.size:=fun n hs=>R.fT _ _ jp n hs;have Jx:=I.hp _ _ jp;generalize ac5:((jP m k).ev ρ).toNat=sLen at*;have ac6:∀k,sLen*size+0≤k->¬K.still (ρ.b i) k:=fun k hk2 hs=>by
  obtain⟨_,i2,h2,h3⟩:=xw k hs;obtain rfl:o_=i2:=by rw[j0]at h2;exact au h2
  rw[J_]at h3;have:(m.ev ρ).toNat*size≤sLen*size:=bq _ (by omega);omega
 obtain⟨V,hV⟩:∃V,V=dF ρ cH.toList ws++AV.cf ρ cs:=⟨_,rfl⟩;have hVl:V.length=sLen*size:=by rw[hV,aD,nM,dt,<-vg,Array.length_toList,hp.size,J_,aiq,Nat.add_mul]
 have ac7:arr.toList=V++rest:=by rw[Ru,hV,List.append_assoc]
 have ao_:arr.size=sLen*size+rest.length:=by have:=congrArg List.length ac7;rw[aD,hVl]at this;simpa using this
 have W5:sLen≤(sc.ev ρ).toNat:=by
  have h5:sLen*size≤(sc.ev ρ).toNat*size:=by rw[<-J_,<-Ww,J_];omega
  exact Nat.le_of_mul_le_mul_right h5 hs0
 have Mz:a.ev ρ=⟨ρ.b i,0,none⟩:=by simp[AA.ev,Hn,pU,BR.ev,IE.ev]
 have lR:=fun{E:Value->World->Prop} {Q:Value->World->Prop}=>Fk (K:=K) (ρ:=ρ) (h:=h) (w:=w) (E:=E) (Q:=Q) (ty:=ty) (base:=some a) (sl:=jP m k) (sc:=sc) (x:=x) h0 h1 hX hXn hS hsz j0 RJ GV J9 iS (by rw[ac5];exact yG);rw[ac5]at lR;have new?:∀{E:Value->World->Prop} {Q':Array Value->World->Prop} {w':World},Rel K ρ h w'->Q' (AV.cf ρ new).toArray w'->wq K.P K.Ev E (Builtin.firstCells size n (x.ev ρ)) Q' w':=fun R' km=>uG R' G iS km;split at he
 ·rw[bV]at he;cases he;have Fm:new=[]:=List.eq_nil_of_length_eq_zero (by simpa using JQ);subst Fm;refine qk.pure R I hs fun{E Q} hq=>lR ?_;rw[if_pos (by omega),bG];refine new? R ?_;simp only[af,AV.cf,bG,storeCells,bO];have:(AV.slice (some a) (jP m k) sc).ev ρ=.slice (some (a.ev ρ)) (sLen+0) (sc.ev ρ).toNat:=by simp only[AV.ev,af,ac5];rfl
  rw[<-this];exact hq
 ·rename_i Mu;have hin:(bM.cH lk s m fs ws (cs++new) elem (.lit 0)).In U:=⟨Jx.1,Jx.2.1,Jx.2.2.1,dg.2 fun x mE=>by
   rcases ay.1 mE with h'|h'
   ·exact dg.1 Jx.2.2.2.1 _ h'
   ·exact dg.1 Jy _ h',trivial⟩
  obtain⟨r1,r2,r3⟩:=zg R I he hin (J8 _ Jx.1);have air:((jP m (k+n)).ev ρ).toNat=sLen+n:=by rw[AF];omega
  rw[air]at r3;refine⟨r1,r2,fun{E Q} hq=>lR ?_⟩;by_cases ur:sLen+n≤(sc.ev ρ).toNat
  ·rw[if_pos ur,bG];refine new? R ?_;simp only[af,bG,Mz];have ac8:(⟨ρ.b i,0,none⟩:Addr).add (sLen*size)=⟨ρ.b i,sLen*size,none⟩:=by unfold Addr.add;split<;>simp_all
   rw[ac8];have jC:sLen*size+0+(AV.cf ρ new).length≤arr.size:=by rw[Ww,J_,dt,JQ,Nat.add_zero,<-Nat.add_mul];exact bq _ ur
   refine px G fu ac6 ha1 jC pb ?_;intro w' ja q1 q2 q3 q4 q5 q6 q7 q8 q9;have oE:∀j b,cV j (j8 i h.hp)=some b->cV j h.hp=some b∧j≠i:=fun j b hb=>by
    rw[jy _ _ _ I.nodup]at hb;split at hb
    · cases hb
    · rename_i df;exact⟨hb,df⟩
   have RN:∀j b,cV j (j8 i h.hp)=some b->ρ.b j≠ρ.b i:=fun j b hb e=>(oE j b hb).2 (R.inj _ _ _ _ (oE j b hb).1 jp e);have Kw:cE K.own w w':=⟨fun m hm=>q2 m (fun e=>hm (by rw[e];exact fu)),by rw[q3];exact aq _,q4,q5,q6⟩;have Rw:Rel K ρ {h with hp:=j8 i h.hp} w':=
    ⟨fun j b hb=>by obtain⟨AI,x1,x2⟩:=R.kj j b (oE j b hb).1;exact⟨AI,by rw[q2 _ (RN j b hb)];exact x1,x2⟩,
     fun j b hb=>R.qu j b (oE j b hb).1,fun j k b c hb hc e=>R.inj j k b c (oE j b hb).1 (oE k c hc).1 e,R.bs,R.is,
     fun p hp=>by obtain⟨m1,m2,m3⟩:=R.mem p hp;refine⟨m1,?_,m3⟩;simp only[World.cell?]at m2⊢;rw[q2 _ (fun e=>m1 (by rw[e];exact fu))];exact m2,
     fun m hm=>R.room m (by rw[q3]at hm;exact hm),fun j b hb=>R.fT j b (oE j b hb).1,fun b n hs=>by rw[q3];exact R.low b n hs⟩
   have wo:ja.toList=dF ρ cH.toList ws++(AV.cf ρ (cs++new)++ja.toList.drop (sLen*size+n*size)):=by
    have hl:V++AV.cf ρ new=ja.toList.take (sLen*size+n*size):=by
      refine List.ext_getElem? fun j=>?_;rw[List.getElem?_take];by_cases hm:j<sLen*size
      ·rw[aP (by rw[hVl];exact hm),if_pos (by omega),(show ja.toList[j]?=ja[j]? from bl),q8 j (by omega),(show arr[j]?=arr.toList[j]? from Array.getElem?_toList.symm),ac7,aP (by rw[hVl];exact hm)]
      ·rw[aE (by rw[hVl];omega),hVl];by_cases hm2:j<sLen*size+n*size
       ·rw[if_pos hm2,(show ja.toList[j]?=ja[j]? from bl)];have:=q9 (j-sLen*size) (by rw[dt,JQ];omega);rw[<-this];congr 1;omega
       ·rw[if_neg hm2,List.getElem?_eq_none (by rw[dt,JQ];omega)]
    rw[fp,<-List.append_assoc,<-List.append_assoc,<-hV,hl];exact(List.take_append_drop _ _).symm
   obtain⟨bL,a1,a2,a3,a4⟩:=r3 (ρ.b i) (sc.ev ρ).toNat w' ja cH _ o_ Kw q1 ⟨fu,xw⟩ Rw RN hp wo (by rw[q7];exact Ww);exact hq _ _ ⟨bL,a1,a2,a3,a4.symm⟩
  ·rw[if_neg ur];have ze:∀{E:Value->World->Prop} {Q':Array Value->World->Prop} {w':World},w'.heap=w.heap->Q' V.toArray w'->wq K.P K.Ev E (Builtin.firstCells size sLen (.slice (some (a.ev ρ)) sLen (sc.ev ρ).toNat)) Q' w':=by
    intro E Q' w' hh km;simp only[Builtin.firstCells,loadCells,Mz];refine xL G fu (by rw[hh];exact ha1) (by omega) ?_;have:(arr.toList.drop 0).take (sLen*size)=V:=by rw[List.drop_zero,ac7,List.take_append_of_le_length (by omega),List.take_of_length_le (by omega)]
    rw[this];simpa using km
   refine RL G R j0 J_ hz hzc W4 (fun hh=>ze hh) (fun R'=>new? R') (by rw[aD,hVl,dt,JQ,Nat.add_mul]) yG ?_;intro d8 w0 AI RO e1 e2 e3 e4 e5 e6 e7;have R0:Rel K ρ h w0:=R.at e1;obtain⟨Rp,Kp⟩:=R0.push (.cells AI elem (0,0));have K0:cE K.own w w0:=⟨fun _ _=>by rw[e1],by rw[e1];exact aq _,e2,e3,e4⟩;obtain⟨bL,a1,a2,a3,a4⟩:=r3 w.heap.size d8 {w0 with heap:=w0.heap.push (.cells AI elem (0,0))} AI cH RO o_ (K0.trans Kp) (by rw[<-e1];simp) ⟨R.room _ (aq _),fun n hs=>by have:=R.low _ n hs;omega⟩ (Rp.drop I i)
    (fun j b hb e=>by
      rw[jy _ _ _ I.nodup]at hb;split at hb
      ·cases hb
      ·obtain⟨ja,sJ,_⟩:=R.kj j b hb;have:=iN sJ;omega) hp (by rw[e5,hV,fp,List.append_assoc,List.append_assoc,List.append_assoc]) (by rw[J_];exact e6)
   exact hq _ _ ⟨bL,a1,a2,a3,a4.symm⟩
theorem J'(G:K.Good)(R:Rel K ρ h w)(I:h_ K U h){argTypes:Array TypeId}{ty:TypeId}{s x v:AV}{h':AH}(hs:s.In U)(hx:x.In U)(he:append? K.P h argTypes s x K.O=.ok (v,h')):
  qk K U ρ h w (Builtin.append_ argTypes ty #[s.ev ρ,x.ev ρ]) v h':=by
 unfold append? at he;split at he
 ·rename_i yA xType h0 h1;simp only[bN]at he;obtain⟨X,hX,he⟩:=he;split at he
  ·cases he
  ·rename_i hXn;simp only[bN]at he;obtain⟨S,hS,he⟩:=he;split at he
   ·rename_i elem;simp only[bN]at he;obtain⟨size,hsz,z,hz,zc,hzc,bytes,Fl,he⟩:=he;split at he
    ·rename_i Hl;obtain⟨W4,hs0,GV,J9⟩:=Hl;simp only[bN]at he;obtain⟨⟨n,new⟩,iS,he⟩:=he;split at he
     ·rename_i jc;split at he
      ·rename_i base sl sc;split at he
       rotate_left
       ·exact Ol G R I h0 h1 hX (fun k e=>hXn k e) hS hsz hz hzc Fl W4 hs0 GV J9 iS jc hs he
       rename_i sn;simp only[bN]at he;obtain⟨sLen,hsl,he⟩:=he;have ac4:=jB hsl;cases ac4;split at he
       ·rename_i yG;have JQ:=wn iS;have Jy:=yF I iS;obtain⟨o_,j0,RJ⟩:=pw Fl;obtain⟨RM,AG,his⟩:=ow hsz;obtain rfl:o_=RM:=by rw[j0]at AG;exact au AG
        have lR:∀{E:Value->World->Prop} {Q:Value->World->Prop},wq K.P K.Ev E (if sLen+n≤(sc.ev ρ).toNat then(do
           let new<-Builtin.firstCells size n (x.ev ρ)
           match base.map (AA.ev ρ)with
           |some a=>do
            storeCells (a.add (sLen*size)) new.toList
            Pure.pure (.slice (base.map (AA.ev ρ)) (sLen+n) (sc.ev ρ).toNat)
           |none=>Pure.pure (.slice (base.map (AA.ev ρ)) (sLen+n) (sc.ev ρ).toNat))
          else(do
           let d8<-choose (.appendCap (sLen+n) (sc.ev ρ).toNat elem)
           askRoom (d8*(<-typeInfo elem).bytes)
           let old<-Builtin.firstCells size sLen (.slice (base.map (AA.ev ρ)) sLen (sc.ev ρ).toNat);let new<-Builtin.firstCells size n (x.ev ρ);let rest:=Builtin.zeroCells (<-zeroValue elem).cells (d8-(sLen+n))
           Pure.pure (.slice (some (<-newRow elem (old++new++rest))) (sLen+n) d8))) Q w->
          wq K.P K.Ev E (Builtin.append_ argTypes ty #[(AV.slice base (.lit (.ofNat sLen)) sc).ev ρ,x.ev ρ]) Q w:=by
         intro E Q hq;have hX':=dT hX;clear hX he;unfold Builtin.append_;simp only[h0,h1,bw,List.getElem?_cons_zero,List.getElem?_cons_succ,bG,b_ (dT hS),d3 hsz,b_ hX',bO,AV.ev,IE.ev];cases X<;>first
          |exact absurd rfl (hXn _)
          |skip
         all_goals simp only[aR,if_false]
         all_goals rw[bG]
         all_goals refine Hm iS ?_
         all_goals have e0:(Int.ofNat sLen).toNat=sLen:=rfl
         all_goals simp only[e0,Bool.not_false,if_true]
         all_goals by_cases hc:sLen+n≤(sc.ev ρ).toNat
         all_goals first
          |(rw[if_pos hc]at hq⊢;cases base<;>exact hq)
          |(rw[if_neg hc]at hq⊢;rw[bG,dZ j0];rw[if_neg (by rw[RJ];intro hh;exact hh.2.elim id (fun h3=>by omega))];rw[bG,dZ j0];rw[if_neg (by rw[RJ];exact nv (by omega) yG J9)];exact hq)
        have pb:=yE jc ρ;have new?:∀{E:Value->World->Prop} {Q':Array Value->World->Prop} {w':World},Rel K ρ h w'->Q' (AV.cf ρ new).toArray w'->wq K.P K.Ev E (Builtin.firstCells size n (x.ev ρ)) Q' w':=fun R' km=>uG R' G iS km;have J_:o_.size=size:=by rw[<-his]
        have old?:∀{old:List AV},appOld? K.O h base sLen size=.ok old->
          old.length=sLen*size∧AV.iB U old∧∀{E:Value->World->Prop} {Q':Array Value->World->Prop} {w':World},Rel K ρ h w'->Q' (AV.cf ρ old).toArray w'->wq K.P K.Ev E (Builtin.firstCells size sLen (.slice (base.map (AA.ev ρ)) sLen (sc.ev ρ).toNat)) Q' w':=by
         intro old ho;unfold appOld? at ho;split at ho
         ·split at ho
          ·rename_i h00;cases ho;exact⟨by simp[h00],trivial,fun R' km=>km⟩
          ·cases ho
         ·refine⟨wi ho,wg I ho,fun R' km=>?_⟩;simp only[af,Builtin.firstCells,loadCells];exact mP R' G ho (by simpa using km)
        split at he
        ·
         rename_i cap;have ec:((IE.lit (Int.ofNat cap)).ev ρ).toNat=cap:=rfl;split at he
         ·rename_i hle;unfold appFit? at he;split at he
          ·rename_i a;simp only[bN,bV]at he;obtain⟨h2,di,e⟩:=he;cases e;have hnb:=xK di;have I':=vd (AA.xI _ hs.1) I di Jy;refine⟨⟨AA.In.mono cG hs.1,trivial,trivial⟩,d6.zJ I' hnb.1 hnb.2,fun{E Q} hq=>lR ?_⟩;rw[ec,if_pos hle,bG];refine new? R ?_;simp only[af,bG];rw[<-AA.sI];refine qY G R di fun w' r1 r2 _ _=>?_;exact hq _ _ ⟨ρ,cz.refl _ _,r1,r2,rfl⟩
          ·split at he
           ·rename_i Mu;rw[bV]at he;cases he;subst Mu;refine qk.pure R I ⟨trivial,trivial,trivial⟩ fun{E Q} hq=>lR ?_;rw[ec,if_pos hle,bG];refine new? R ?_;exact hq
           ·cases he
         ·rename_i hle;unfold appGrow? at he;simp only[bN]at he;obtain⟨old,ze,ha⟩:=he;obtain⟨o1,o2,o3⟩:=old? ze;have hin:AV.iB U (old++new):=dg.2 fun a ha=>by
           rcases ay.1 ha with h'|h'
           ·exact dg.1 o2 _ h'
           ·exact dg.1 Jy _ h'
          obtain⟨r1,r2,r3⟩:=rV R I ha hin;refine⟨r1,r2,fun{E Q} hq=>lR ?_⟩;rw[ec,if_neg hle];refine My G R j0 J_ hz hzc W4 (fun R'=>o3 R') (fun R'=>new? R') (by rw[aD,o1,JQ,Nat.add_mul]) yG ?_;intro d8 w0 arr rest e1 e2 e3 e4 e5 e6 e7;have R0:Rel K ρ h w0:=R.at e1;obtain⟨Rp,Kp⟩:=R0.push (.cells arr elem (0,0));have K0:cE K.own w w0:=⟨fun _ _=>by rw[e1],by rw[e1];exact aq _,e2,e3,e4⟩;obtain⟨bL,a1,a2,a3,a4⟩:=r3 w.heap.size d8 {w0 with heap:=w0.heap.push (.cells arr elem (0,0))} arr rest o_ (K0.trans Kp) (by rw[<-e1];simp) ⟨R.room _ (aq _),fun n hs=>by have:=R.low _ n hs;omega⟩ Rp
           (fun j b hb e=>by obtain⟨ja,sJ,_⟩:=R.kj j b hb;have:=iN sJ;omega) e5 j0 (by rw[J_];exact e6)
          exact hq _ _ ⟨bL,a1,a2,a3,a4.symm⟩
        ·
         unfold appRow? at he;split at he
         ·rename_i a;split at he
          ·rename_i i Hn pU;split at he
           ·rename_i cs e c' jp;split at he
            ·rename_i hc3;obtain⟨hee,Jz,dI⟩:=hc3;have ac2:=hee.symm;subst ac2;have ac3:=IE.dG Jz;subst ac3;obtain⟨arr,ha1,rest,i1,Ru,WZ,Ww⟩:=R.arr jp rfl;obtain rfl:o_=i1:=by rw[j0]at WZ;exact au WZ
             have fu:=R.own _ _ jp rfl;have xw:∀n,¬K.still (ρ.b i) n:=fun n hs=>by have:=R.fT _ _ jp n hs;cases this
             have Jx:=I.hp _ _ jp;have ao_:arr.size=cs.length+rest.length:=by have:=congrArg List.length Ru;simpa[dt] using this
             have W5:sLen≤(sc.ev ρ).toNat:=by
              have h5:sLen*size≤(sc.ev ρ).toNat*size:=by rw[<-J_,<-Ww,J_];omega
              exact Nat.le_of_mul_le_mul_right h5 hs0
             have Mz:a.ev ρ=⟨ρ.b i,0,none⟩:=by simp[AA.ev,Hn,pU,BR.ev,IE.ev]
             split at he
             ·rename_i Mu;rw[bV]at he;cases he;subst Mu;have Fm:new=[]:=List.eq_nil_of_length_eq_zero (by simpa using JQ);subst Fm;refine qk.pure R I hs fun{E Q} hq=>lR ?_;rw[if_pos (by omega),bG];refine new? R ?_;simp only[af,AV.cf,bG,storeCells,bO];exact hq
             ·rename_i Mu;have hin:AV.iB U (cs.take (sLen*size)++new):=dg.2 fun x mE=>by
               rcases ay.1 mE with h'|h'
               ·exact dg.1 Jx.1 _ (List.mem_of_mem_take h')
               ·exact dg.1 Jy _ h'
              obtain⟨r1,r2,r3⟩:=rV R I he hin;refine⟨r1,r2,fun{E Q} hq=>lR ?_⟩;by_cases ur:sLen+n≤(sc.ev ρ).toNat
              ·
               rw[if_pos ur,bG];refine new? R ?_;simp only[af,bG,Mz];have ac8:(⟨ρ.b i,0,none⟩:Addr).add (sLen*size)=⟨ρ.b i,sLen*size,none⟩:=by unfold Addr.add;split<;>simp_all
               rw[ac8];have jC:sLen*size+0+(AV.cf ρ new).length≤arr.size:=by rw[Ww,J_,dt,JQ,Nat.add_zero,<-Nat.add_mul];exact bq _ ur
               refine px G fu (fun n _=>xw n) ha1 jC pb ?_;intro w' ja q1 q2 q3 q4 q5 q6 q7 q8 q9;have oE:∀j b,cV j (j8 i h.hp)=some b->cV j h.hp=some b∧j≠i:=fun j b hb=>by
                rw[jy _ _ _ I.nodup]at hb;split at hb
                · cases hb
                · rename_i df;exact⟨hb,df⟩
               have RN:∀j b,cV j (j8 i h.hp)=some b->ρ.b j≠ρ.b i:=fun j b hb e=>(oE j b hb).2 (R.inj _ _ _ _ (oE j b hb).1 jp e);have Kw:cE K.own w w':=⟨fun m hm=>q2 m (fun e=>hm (by rw[e];exact fu)),by rw[q3];exact aq _,q4,q5,q6⟩;have Rw:Rel K ρ {h with hp:=j8 i h.hp} w':=
                ⟨fun j b hb=>by obtain⟨AI,x1,x2⟩:=R.kj j b (oE j b hb).1;exact⟨AI,by rw[q2 _ (RN j b hb)];exact x1,x2⟩,
                 fun j b hb=>R.qu j b (oE j b hb).1,fun j k b c hb hc e=>R.inj j k b c (oE j b hb).1 (oE k c hc).1 e,R.bs,R.is,
                 fun p hp=>by obtain⟨m1,m2,m3⟩:=R.mem p hp;refine⟨m1,?_,m3⟩;simp only[World.cell?]at m2⊢;rw[q2 _ (fun e=>m1 (by rw[e];exact fu))];exact m2,
                 fun m hm=>R.room m (by rw[q3]at hm;exact hm),fun j b hb=>R.fT j b (oE j b hb).1,fun b n hs=>by rw[q3];exact R.low b n hs⟩
               have wo:ja.toList=AV.cf ρ (cs.take (sLen*size)++new)++ja.toList.drop (sLen*size+n*size):=by
                have hl:(AV.cf ρ (cs.take (sLen*size)++new))=ja.toList.take (sLen*size+n*size):=by
                  refine List.ext_getElem? fun m=>?_;rw[List.getElem?_take];rw[fp];have RP:(AV.cf ρ (cs.take (sLen*size))).length=sLen*size:=by rw[dt,List.length_take];omega
                  by_cases hm:m<sLen*size
                  ·rw[aP (by rw[RP];exact hm),if_pos (by omega),pq,List.getElem?_take,if_pos hm,(show ja.toList[m]?=ja[m]? from bl),q8 m (by omega),(show arr[m]?=arr.toList[m]? from Array.getElem?_toList.symm),Ru,aP (by rw[dt];omega),pq]
                  ·rw[aE (by rw[RP];omega),RP];by_cases hm2:m<sLen*size+n*size
                   ·rw[if_pos hm2,(show ja.toList[m]?=ja[m]? from bl)];have:=q9 (m-sLen*size) (by rw[dt,JQ];omega);rw[<-this];congr 1;omega
                   ·rw[if_neg hm2,List.getElem?_eq_none (by rw[dt,JQ];omega)]
                rw[hl];exact(List.take_append_drop _ _).symm
               obtain⟨bL,a1,a2,a3,a4⟩:=r3 (ρ.b i) (sc.ev ρ).toNat w' ja _ o_ Kw q1 ⟨fu,xw⟩ Rw RN wo j0 (by rw[q7];exact Ww);exact hq _ _ ⟨bL,a1,a2,a3,a4.symm⟩
              ·
               rw[if_neg ur];have ze:∀{E:Value->World->Prop} {Q':Array Value->World->Prop} {w':World},Rel K ρ h w'->Q' (AV.cf ρ (cs.take (sLen*size))).toArray w'->wq K.P K.Ev E (Builtin.firstCells size sLen (.slice (some (a.ev ρ)) sLen (sc.ev ρ).toNat)) Q' w':=by
                intro E Q' w' R' km;have hl:∀(m j:Nat),j+m≤cs.length->mN K.O h a m j=.ok ((cs.drop j).take m):=by
                  intro m
                  induction m with
                  |zero=>intro j _;simp[mN]
                  |succ m ih=>
                   intro j hj;have h1:vX K.O h (a.add j)=.ok cs[j]:=by
                    unfold vX Dv;have:(a.add j)=⟨.cN i,.lit (.ofNat j)⟩:=by simp only[AA.add,Hn,pU,nJ,Nat.zero_add]
                    rw[this];simp only[jp,bM.cs];rw[aF (by omega)]
                   simp only[mN,h1];rw[ih (j+1) (by omega)];simp only;rw[List.drop_eq_getElem_cons (by omega:j<cs.length),List.take_succ_cons]
                simp only[Builtin.firstCells,loadCells];exact mP R' G (hl (sLen*size) 0 (by omega)) (by simpa using km)
               refine My G R j0 J_ hz hzc W4 (fun R'=>ze R') (fun R'=>new? R') (by rw[aD,List.length_take,JQ,Nat.add_mul,Nat.min_eq_left dI]) yG ?_;intro d8 w0 AI RO e1 e2 e3 e4 e5 e6 e7;have R0:Rel K ρ h w0:=R.at e1;obtain⟨Rp,Kp⟩:=R0.push (.cells AI elem (0,0));have K0:cE K.own w w0:=⟨fun _ _=>by rw[e1],by rw[e1];exact aq _,e2,e3,e4⟩;obtain⟨bL,a1,a2,a3,a4⟩:=r3 w.heap.size d8 {w0 with heap:=w0.heap.push (.cells AI elem (0,0))} AI RO o_ (K0.trans Kp) (by rw[<-e1];simp) ⟨R.room _ (aq _),fun n hs=>by have:=R.low _ n hs;omega⟩ (Rp.drop I i)
                (fun j b hb e=>by
                  rw[jy _ _ _ I.nodup]at hb;split at hb
                  ·cases hb
                  ·obtain⟨ja,sJ,_⟩:=R.kj j b hb;have:=iN sJ;omega) e5 j0 (by rw[J_];exact e6)
               exact hq _ _ ⟨bL,a1,a2,a3,a4.symm⟩
            ·cases he
           ·cases he
          ·cases he
         ·cases he
       ·cases he
      ·cases he
     ·cases he
    ·cases he
   ·cases he
 ·cases he
end
section
variable {K:ik}{ρ:cn}{h:AH}{w:World}{U:Nat->Prop}
theorem Ka{P:Program}{es:List (AV×AV)}{o:Obj}(h:(bM.map es).is P ρ o):∃arr qV,o=.map arr qV∧arr.toList.map (fun e=>(e.key,e.val))=es.map fun p=>(p.1.ev ρ,p.2.ev ρ):=by
 rcases h with⟨arr,_,h⟩|h
 ·exact h.elim
 ·exact h
theorem n9{P:Program}{Ev:Event->Prop}{E:Value->World->Prop}{r:Nat}{o:Obj}(h1:w.heap[r]?=some o)(h2:∀c e f,o≠.cells c e f)(h3:Ev ⟨.obj r,false,o.isChan⟩){Q:Obj->World->Prop}(hq:Q o w):wq P Ev E (getObj r) Q w:=
 ⟨o,h1,h2,h3,hq⟩
theorem DI{P:Program}{Ev:Event->Prop}{E:Value->World->Prop}{r:Nat}{o o':Obj}(h1:w.heap[r]?=some o')(h2:∀c e f,o'≠.cells c e f)(h3:Ev ⟨.obj r,true,o.isChan⟩){Q:Unit->World->Prop}(hq:Q () {w with heap:=w.heap.setIfInBounds r o}):wq P Ev E (setObj r o) Q w:=
 ⟨⟨o',h1,h2⟩,h3,hq⟩
theorem uH(R:Rel K ρ h w)(I:h_ K U h){b:bM}{mk:BR->AV}{v:AV}{h':AH}(ha:allocO? h b mk=.ok (v,h'))(hb:b.In U)(hmk:∀r,BR.In (plus U h.nb (h.nb+1)) r->(mk r).In (plus U h.nb (h.nb+1)))(di:∀n,b.l9 n=b.l9 n):
  v.In (plus U h.nb h'.nb)∧d6 K U h h'∧∀o,b.is K.P ρ o->f_ K U ρ w h' (fun bL=>v.ev bL=(mk (.cN h.nb)).ev (ρ.upd h.nb w.heap.size 0)) {w with heap:=w.heap.push o}:=by
 obtain⟨hp,nb,eH⟩:=h;simp only[allocO?]at ha;split at ha
 ·rename_i dU;cases ha;have CQ:¬U nb:=I.fresh _ (aq _) dU;refine⟨hmk _ (.inr ⟨aq _,a_ _⟩),⟨Nat.le_succ _,rfl,I.Wv dU (bM.In.mono cG hb)⟩,fun o ho=>?_⟩;obtain⟨R',kp⟩:=R.push o;refine⟨ρ.upd nb w.heap.size 0,gZ CQ,R'.aih I dU (by simp) (R.room _ (aq _)) (fun j x hx e=>?_) (fun n hs=>by have:=R.low _ n hs;omega) (G8 (gZ CQ) hb ho),kp,rfl⟩;obtain⟨ja,ha,_⟩:=R.kj j x hx;have:=iN ha;omega
 ·cases ha
theorem Ho(R:Rel K ρ h w)(I:h_ K U h){t:TypeId}{s v:AV}{h':AH}(ha:makeChan? K.P h t s=.ok (v,h')):qk K U ρ h w (Instr.makeChan t (s.ev ρ)) v h':=by
 unfold makeChan? at ha;split at ha
 ·rename_i k d elem hu;split at ha
  ·rename_i i hi;obtain⟨h1,h2,h3⟩:=uH R I ha trivial (fun r hr=>hr) (fun _=>rfl);refine⟨h1,h2,fun{E Q} hq=>?_⟩;simp only[Instr.makeChan,AV.ev,IE.ev,bG,asInt,asIntOf,bO,b_ hu,dZ hi];have hm:¬(Int.ofNat 0<0∨Int.ofNat 0>IntKind.i64.max∨(i.bytes:Int)*Int.ofNat 0>2 ^ 48-112):=by
    simp[IntKind.max,IntKind.bits];decide
   simp only[hm,if_false,bG,bO,jV];obtain⟨bL,a1,a2,a3,a4⟩:=h3 (.chan 0 #[] false 0 0 false) (.inr ⟨0,rfl⟩);refine hq _ _ ⟨bL,a1,a2,a3,?_⟩;show Value.chan (some w.heap.size)=v.ev bL;rw[a4];simp[AV.ev,BR.ev,cn.upd]
  ·cases ha
 ·cases ha
theorem Kb(R:Rel K ρ h w)(I:h_ K U h){t:TypeId}{r:Option AV}{v:AV}{h':AH}(ha:makeMap? h r=.ok (v,h')):qk K U ρ h w (Instr.makeMap t (r.map (AV.ev ρ))) v h':=by
 unfold makeMap? at ha;split at ha
 ·obtain⟨h1,h2,h3⟩:=uH R I ha (nofun) (fun r hr=>hr) (fun _=>rfl);refine⟨h1,h2,fun{E Q} hq=>?_⟩;simp only[Instr.makeMap,bu,bG,bO,jV];obtain⟨bL,a1,a2,a3,a4⟩:=h3 (.map #[] 0) (.inr ⟨#[],0,rfl,rfl⟩);refine hq _ _ ⟨bL,a1,a2,a3,?_⟩;show Value.map (some w.heap.size)=v.ev bL;rw[a4];simp[AV.ev,BR.ev,cn.upd]
 ·cases ha
def MA(ρ:cn)(w:World)(Q:Option (Nat×Value)->World->Prop):Option AV->Prop
 |some v=>∀j,Q (some (j,v.ev ρ)) w
 |none=>Q none w
theorem CY(R:Rel K ρ h w){E:Value->World->Prop}{key:TypeId}{k:AV}:∀{es:List (AV×AV)} {L:List MapEntry} {i:Nat} {r:Option AV},L.map (fun e=>(e.key,e.val))=es.map (fun p=>(p.1.ev ρ,p.2.ev ρ))->
  findA? K.P K.O h key k es=.ok r->∀{Q:Option (Nat×Value)->World->Prop},MA ρ w Q r->wq K.P K.Ev E (Instr.findAsking key (k.ev ρ) L i) Q w:=by
 intro es
 induction es with
 |nil=>
  intro L i r hL he Q hq;obtain rfl:L=[]:=by simpa using hL
  cases he;exact hq
 |cons p es ih=>
  intro L i r hL he Q hq;cases L with
  |nil=>simp at hL
  |cons e L=>
   simp only[ah,List.cons.injEq,Prod.mk.injEq]at hL;obtain⟨⟨e1,e2⟩,hL⟩:=hL;obtain⟨a,v⟩:=p;have jO:(match eq? K.P K.O h 8 key k a with
    |.ok (.lit true)=>.ok (some v)
    |.ok (.lit false)=>findA? K.P K.O h key k es
    |.ok _=>.error "a maps key open"
    |.error e=>.error e)=Except.ok r:=he
   simp only[Instr.findAsking,bG,e1];split at jO
   ·rename_i hb;cases jO;refine wm R hb ?_;show wq K.P K.Ev E (if true=true then _ else _) Q w;simp only[if_true,bO,e2];exact hq i
   ·rename_i hb;refine wm R hb ?_;show wq K.P K.Ev E (if false=true then _ else _) Q w;simp only[aR,if_false];exact ih hL jO hq
   ·cases jO
   ·cases jO
theorem vh(R:Rel K ρ h w){E:Value->World->Prop}{key:TypeId}{k:AV}{es:List (AV×AV)}{L:List MapEntry}{r:Option AV}(hk:keyOk? K.P key=true)(hL:L.map (fun e=>(e.key,e.val))=es.map (fun p=>(p.1.ev ρ,p.2.ev ρ)))
 (he:findA? K.P K.O h key k es=.ok r){Q:Option (Nat×Value)->World->Prop}(hq:MA ρ w Q r):wq K.P K.Ev E (Instr.findKey key (k.ev ρ) L) Q w:=by
 unfold keyOk? at hk;split at hk
 ·rename_i e hu;simp only[Instr.findKey,bG,b_ hu];cases L with
  |nil=>
   have:es=[]:=by simpa using hL.symm
   subst this;cases he;exact hq
  |cons x L=>
   have:Instr.findNow (.pointer e) (k.ev ρ) (x::L) 0=none:=by simp[Instr.findNow,Instr.sameNow]
   rw[this];exact CY R hL he hq
 ·cases hk
theorem sP{P:Program}{key:TypeId}(hk:keySize? P key=true):∃e n,P.underlying key=some (.pointer e)∧sizeOf? P e=.ok n∧n≠0:=by
 unfold keySize? at hk;split at hk
 ·rename_i e hu;split at hk
  ·rename_i n hs;refine⟨e,n,hu,hs,fun h=>?_⟩;subst h;cases hk
  ·cases hk
 ·cases hk
theorem wp{P:Program}{key:TypeId}(hk:keySize? P key=true):keyOk? P key=true:=by obtain⟨e,n,hu,_⟩:=sP hk;unfold keyOk?;rw[hu]
theorem Om{E:Value->World->Prop}{key:TypeId}(hk:keySize? K.P key=true){b m n:Nat}{Q:Bool->World->Prop}(hq:Q (m==n) w):wq K.P K.Ev E (Op.equal key (.pointer (some ⟨b,m,none⟩)) (.pointer (some ⟨b,n,none⟩))) Q w:=by
 obtain⟨e,k,hu,hs,h0⟩:=sP hk;have key':∀D,wq K.P K.Ev E (Op.equalIn (D+1) key (.pointer (some ⟨b,m,none⟩)) (.pointer (some ⟨b,n,none⟩))) Q w:=fun D=>by simp only[Op.equalIn,bG,b_ hu,d3 hs];rw[if_pos h0];exact oC hq
 exact key' 9999
theorem AJ{E:Value->World->Prop}{key:TypeId}(hk:keySize? K.P key=true){a:AA}{r:Option AV}:∀{es:List (Value×Value)} {L:List MapEntry} {i:Nat},L.map (fun e=>(e.key,e.val))=es->wa ρ es a r->∀{Q:Option (Nat×Value)->World->Prop},MA ρ w Q r->
  wq K.P K.Ev E (Instr.findAsking key (.pointer (some (a.ev ρ))) L i) Q w:=by
 intro es
 induction es with
 |nil=>
  intro L i hL hK Q hq;obtain rfl:L=[]:=by simpa using hL
  obtain⟨_,h2⟩:=hK;cases r with
  |none=>exact hq
  |some v=>obtain⟨E1,E2,h3,_⟩:=h2;simp at h3
 |cons p es ih=>
  intro L i hL hK Q hq;cases L with
  |nil=>simp at hL
  |cons e L=>
   simp only[ah,List.cons.injEq]at hL;obtain⟨rfl,hL⟩:=hL;obtain⟨h1,h2⟩:=hK;obtain⟨off,ho⟩:=h1 _ (an ..);dsimp only at ho;have ea:a.ev ρ=⟨(a.ev ρ).block,(a.ev ρ).off,none⟩:=by unfold AA.ev;rfl
   simp only[Instr.findAsking,bG,ho];rw[ea];refine Om hk ?_;have rest:(e.key≠.pointer (some (a.ev ρ))->wa ρ es a r):=fun df=>by
    refine⟨fun q hq=>h1 q (am _ hq),?_⟩;cases r with
    |none=>exact fun q hq=>h2 q (am _ hq)
    |some v=>
     obtain⟨E1,E2,h3,h4⟩:=h2;cases E1 with
     |nil=>simp only[aA,List.cons.injEq,Prod.mk.injEq]at h3;exact absurd h3.1.1 df
     |cons q E1=>simp only[az,List.cons.injEq]at h3;exact⟨E1,E2,h3.2,fun q' km=>h4 q' (am _ km)⟩
   by_cases pU:(a.ev ρ).off=off
   ·have aiu:e.key=.pointer (some (a.ev ρ)):=by rw[ho,<-pU,<-ea]
    have hb:((a.ev ρ).off==off)=true:=by simpa using pU
    rw[hb];simp only[if_true,bO];cases r with
    |none=>exact absurd aiu (h2 _ (an ..))
    |some v=>
     obtain⟨E1,E2,h3,h4⟩:=h2;cases E1 with
     |nil=>simp only[aA,List.cons.injEq,Prod.mk.injEq]at h3;rw[h3.1.2];exact hq i
     |cons q E1=>simp only[az,List.cons.injEq]at h3;exact absurd (by rw[<-h3.1];exact aiu) (h4 q (an ..))
   ·have hb:((a.ev ρ).off==off)=false:=by simpa using pU
    rw[hb];simp only[aR,if_false];rw[<-ea];refine ih hL (rest fun hx=>pU ?_) hq;rw[ho]at hx;simp only[Value.pointer.injEq,Option.some.injEq]at hx;rw[<-hx]
theorem sQ{E:Value->World->Prop}{key:TypeId}(hk:keySize? K.P key=true){a:AA}{r:Option AV}{L:List MapEntry}(hK:wa ρ (L.map fun e=>(e.key,e.val)) a r){Q:Option (Nat×Value)->World->Prop}(hq:MA ρ w Q r):wq K.P K.Ev E (Instr.findKey key (.pointer (some (a.ev ρ))) L) Q w:=by
 obtain⟨e,n,hu,_⟩:=sP hk;simp only[Instr.findKey,bG,b_ hu];cases L with
 |nil=>
  obtain⟨_,h2⟩:=hK;cases r with
  |none=>exact hq
  |some v=>obtain⟨E1,E2,h3,_⟩:=h2;simp at h3
 |cons x L=>
  have:Instr.findNow (.pointer e) (.pointer (some (a.ev ρ))) (x::L) 0=none:=by simp[Instr.findNow,Instr.sameNow]
  rw[this];exact AJ hk rfl hK hq
theorem DJ{a:AA}{r:Option AV}:∀{fs:List (AA×Option AV)},Mb a fs=some r->(a,r)∈fs
 |[],h=>by cases h
 |p::l,h=>by
  have h':(match a.hZ p.1 with
   |true=>some p.2
   |false=>Mb a l)=some r:=h
  split at h'
  ·rename_i he;cases h';rw[AA.dG he];exact an ..
  ·exact am _ (DJ h')
theorem Fo{P:Program}{s:Nat}{n:IE}{fs:List (AA×Option AV)}{ws:List (AV×AV)}{o:Obj}(h:(bM.iY s n fs ws).is P ρ o):∃arr qV E,o=.map arr qV∧ρ.v s=E7 E∧E.length=(n.ev ρ).toNat∧arr.toList.map (fun e=>(e.key,e.val))=E++ws.map (fun p=>(p.1.ev ρ,p.2.ev ρ))∧∀p∈fs,wa ρ E p.1 p.2:=by
 rcases h with⟨arr,_,h⟩|h
 ·exact h.elim
 ·exact h
theorem xM{key:TypeId}{x k:AV}{r:Option AV}(he:lookV? K.P h key x k=some r):∃i s n fs a,x=.map (some (.cN i))∧cV i h.hp=some (.iY s n fs [])∧k=.ptr (some a)∧keySize? K.P key=true∧(a,r)∈fs:=by
 unfold lookV? at he;split at he
 ·rename_i i;split at he
  ·rename_i s n fs ws hb;split at he
   ·rename_i a hs;exact⟨i,s,n,fs,a,rfl,hb,rfl,hs,DJ he⟩
   ·cases he
  ·cases he
 ·cases he
theorem py{E:Value->World->Prop}{key:TypeId}{k:Value}{b:Bool}(hk:keyOk? K.P key=true){Q:Unit->World->Prop}(hq:Q () w):wq K.P K.Ev E (Instr.checkKey b 10000 key k) Q w:=by
 unfold keyOk? at hk;split at hk
 ·rename_i e hu;unfold Instr.checkKey;simp only[bG,b_ hu];cases k<;>exact hq
 ·cases hk
theorem Fp(R:Rel K ρ h w)(G:K.Good){x:AV}{es:List (AV×AV)}(he:entries? h x=.ok es):(x=.map none∧es=[])∨∃i arr qV,x=.map (some (.cN i))∧cV i h.hp=some (.map es)∧w.heap[ρ.b i]?=some (.map arr qV)∧arr.toList.map (fun e=>(e.key,e.val))=es.map fun p=>(p.1.ev ρ,p.2.ev ρ):=by
 unfold entries? at he;split at he
 ·cases he;exact .inl ⟨rfl,rfl⟩
 ·rename_i i;split at he
  ·rename_i es' hb;cases he;obtain⟨o,h1,h2⟩:=R.kj _ _ hb;obtain⟨arr,qV,rfl,h3⟩:=Ka h2;exact .inr ⟨i,arr,qV,rfl,hb,h1,h3⟩
  ·cases he
 ·cases he
theorem Oo(R:Rel K ρ h w)(G:K.Good){E:Value->World->Prop}{t:TypeId}{x k v:AV}{ok:Bool}(he:lookup? K.P K.O h t x k ok=.ok v){Q:Value->World->Prop}(hq:Q (v.ev ρ) w):wq K.P K.Ev E (Instr.lookup t (x.ev ρ) (k.ev ρ) ok) Q w:=by
 unfold lookup? at he;split at he
 ·rename_i key elem hu;split at he
  ·rename_i r hv;obtain⟨i,s,n,fs,a,rfl,hb,rfl,hks,qX⟩:=xM hv;obtain⟨o,h1,h2⟩:=R.kj _ _ hb;obtain⟨arr,qV,L,rfl,h3,h4,h5,h6⟩:=Fo h2;have hK:wa ρ (arr.toList.map fun e=>(e.key,e.val)) a r:=by
    rw[h5,ak,aX];exact h6 _ qX
   simp only[Instr.lookup,bG,b_ hu,AV.ev,af,BR.ev,bO];refine n9 h1 (by intros;simp) (G.obj _ _ _ (R.own _ _ hb rfl)) ?_;simp only[bG,bO];refine py (wp hks) ?_;split at he
   ·rename_i u;cases he;refine sQ hks hK ?_;intro j;simp only[bO];cases ok<;>exact hq
   ·split at he
    ·rename_i z hz;cases he;refine sQ hks hK ?_;show wq K.P K.Ev E (zeroValue elem>>= _) Q w;rw[bG,fR (ρ:=ρ) hz];cases ok<;>exact hq
    ·cases he
  split at he
  ·rename_i hk;split at he
   ·rename_i es qS;have rest:∀{arr:Array MapEntry},arr.toList.map (fun e=>(e.key,e.val))=es.map (fun p=>(p.1.ev ρ,p.2.ev ρ))->
      wq K.P K.Ev E (do
       Instr.checkKey arr.isEmpty 10000 key (k.ev ρ)
       let(v,b)<-match<-Instr.findKey key (k.ev ρ) arr.toList with
        |some (_,v)=>pure (v,true)
        |none=>pure (<-zeroValue elem,false)
       pure (if ok then .tuple #[v,.bool b]else v)) Q w:=by
     intro arr hL;rw[bG];refine py hk ?_;rw[bG];split at he
     ·rename_i u hf;cases he;refine vh R hk hL hf ?_;intro j;simp only[bO];cases ok<;>exact hq
     ·rename_i hf;split at he
      ·rename_i z hz;cases he;refine vh R hk hL hf ?_;show wq K.P K.Ev E (zeroValue elem>>= _) Q w;rw[bG,fR (ρ:=ρ) hz];cases ok<;>exact hq
      ·cases he
     ·cases he
    rcases Fp R G qS with⟨rfl,rfl⟩|⟨i,arr,qV,rfl,hb,hw,hL⟩
    ·simp only[Instr.lookup,bG,b_ hu,AV.ev,bu,bO];have:=rest (arr:=#[]) rfl;simp only[bG,bO]at this;exact this
    ·simp only[Instr.lookup,bG,b_ hu,AV.ev,af,BR.ev,bO];refine n9 hw (by intros;simp) (G.obj _ _ _ (R.own _ _ hb rfl)) ?_;have:=rest hL;simp only[bG,bO]at this⊢;exact this
   ·cases he
  ·cases he
 ·cases he
theorem Oq{P:Program}{O:dP}{key:TypeId}{k v:AV}:∀{es:List (AV×AV)},(∀p∈es,p.1.In U∧p.2.In U)->findA? P O h key k es=.ok (some v)->v.In U:=by
 intro es
 induction es with
 |nil=>intro _ he;cases he
 |cons p es ih=>
  intro hi he;obtain⟨a,u⟩:=p;have jO:(match eq? P O h 8 key k a with
    |.ok (.lit true)=>.ok (some u)
    |.ok (.lit false)=>findA? P O h key k es
    |.ok _=>.error "a maps key open"
    |.error e=>.error e)=Except.ok (some v):=he
  split at jO
  ·cases jO;exact(hi _ (an ..)).2
  ·exact ih (fun p hp=>hi p (am _ hp)) jO
  ·cases jO
  ·cases jO
theorem Kc(I:h_ K U h){t:TypeId}{x k v:AV}{ok:Bool}(he:lookup? K.P K.O h t x k ok=.ok v):v.In U:=by
 have qj:∀{u:AV} {b:Bool},u.In U->(if ok then AV.tuple [u,.bool (.lit b)]else u).In U:=fun hu=>by
  cases ok
  ·exact hu
  ·exact⟨hu,trivial,trivial⟩
 unfold lookup? at he;split at he
 ·split at he
  ·rename_i r hv;obtain⟨i,s,n,fs,a,rfl,hb,rfl,hks,qX⟩:=xM hv;split at he
   ·rename_i u;cases he;exact qj ((I.hp _ _ hb).2.1 _ qX).2
   ·split at he
    ·rename_i z hz;cases he;exact qj (qy hz)
    ·cases he
  split at he
  ·split at he
   ·rename_i es qS;split at he
    ·rename_i u hf;cases he;refine qj (Oq (fun p hp=>?_) hf);unfold entries? at qS;split at qS
     ·cases qS;cases hp
     ·split at qS
      ·rename_i hbk;cases qS;exact I.hp _ _ hbk p hp
      ·cases qS
     ·cases qS
    ·split at he
     ·rename_i z hz;cases he;exact qj (qy hz)
     ·cases he
    ·cases he
   ·cases he
  ·cases he
 ·cases he
theorem Rel.aiv(R:Rel K ρ h w){i:Nat}{b b':bM}{o':Obj}(hb:cV i h.hp=some b)(ho:b'.is K.P ρ o')(hbc:b.isChan=false)(hl:∀n,b.i_ K.P ρ n->b'.i_ K.P ρ n):
  Rel K ρ {h with hp:=Aj i b' h.hp} {w with heap:=w.heap.setIfInBounds (ρ.b i) o'}∧cE K.own w {w with heap:=w.heap.setIfInBounds (ρ.b i) o'}:=by
 have fu:=R.own _ _ hb hbc;obtain⟨o,h1,_⟩:=R.kj _ _ hb;have dU:=iN h1;have df:∀m,m≠ρ.b i->(w.heap.setIfInBounds (ρ.b i) o')[m]?=w.heap[m]?:=fun m hm=>aC (fun e=>hm e.symm);refine⟨⟨fun j c hj=>?_,fun j c hj=>?_,fun j k c d hj hk e=>?_,R.bs,R.is,fun p hp=>?_,fun m hm=>R.room m (by simpa using hm),fun j c hj m hm=>?_,fun b m hm=>by have:=R.low b m hm;simpa using this⟩,⟨fun m hm=>df m (fun e=>hm (e▸fu)),by simp,rfl,rfl,rfl⟩⟩
 ·rw[eJ]at hj;split at hj
  ·rename_i e;subst e;rw[hb]at hj;cases hj;exact⟨o',by simp[dU],ho⟩
  ·rename_i e;obtain⟨o2,sJ,xx⟩:=R.kj _ _ hj;refine⟨o2,?_,xx⟩;show(w.heap.setIfInBounds (ρ.b i) o')[_]?=_;rw[df _ (fun x=>e (R.inj _ _ _ _ hj hb x)),sJ]
 ·rw[eJ]at hj;split at hj
  ·rename_i e;subst e;exact .inl fu
  ·exact R.qu _ _ hj
 ·rw[eJ]at hj hk;split at hj<;>split at hk
  ·rename_i e1 e2;exact e1.trans e2.symm
  ·rename_i e1 e2;subst e1;exact R.inj _ _ _ _ hb hk e
  ·rename_i e1 e2;subst e2;exact R.inj _ _ _ _ hj hb e
  ·exact R.inj _ _ _ _ hj hk e
 ·obtain⟨m1,m2,m3⟩:=R.mem p hp;refine⟨m1,?_,m3⟩;simp only[World.cell?]at m2⊢;rw[df _ (fun x=>m1 (by rw[x];exact fu))];exact m2
 ·rw[eJ]at hj;split at hj
  ·rename_i e;subst e;rw[hb]at hj;cases hj;exact hl m (R.fT _ _ hb m hm)
  ·exact R.fT _ _ hj m hm
theorem AK(I:h_ K U h){t:TypeId}{x k v:AV}{h':AH}(hk:k.In U)(hv:v.In U)(he:mapUpdate? K.P K.O h t x k v=.ok h'):h_ K U h'∧h'.nb=h.nb∧h'.eH=h.eH:=by
 unfold mapUpdate? at he;split at he
 ·split at he
  ·rename_i es hb;split at he
   ·split at he
    ·cases he;refine⟨⟨fun j c hj=>?_,fun j hj=>I.keys j (by rw[jU]at hj;exact hj),by rw[jU];exact I.nodup,I.fresh,I.zE⟩,rfl,rfl⟩;rw[eJ]at hj;split at hj
     ·rw[hb]at hj;cases hj;intro p hp;rcases ay.1 hp with hp|hp
      ·exact I.hp _ _ hb p hp
      ·obtain rfl:=ad.1 hp;exact⟨hk,hv⟩
     ·exact I.hp _ _ hj
    ·cases he
    ·cases he
   ·cases he
  ·rename_i s n fs ws hb;split at he
   ·cases he;refine⟨⟨fun j c hj=>?_,fun j hj=>I.keys j (by rw[jU]at hj;exact hj),by rw[jU];exact I.nodup,I.fresh,I.zE⟩,rfl,rfl⟩;rw[eJ]at hj;split at hj
    ·rw[hb]at hj;cases hj;obtain⟨i1,i2,i3⟩:=I.hp _ _ hb;refine⟨i1,i2,fun p hp=>?_⟩;rcases ay.1 hp with hp|hp
     ·exact i3 p hp
     ·obtain rfl:=ad.1 hp;exact⟨hk,hv⟩
    ·exact I.hp _ _ hj
   ·cases he
  ·cases he
 ·cases he
theorem Fq(R:Rel K ρ h w)(G:K.Good){E:Value->World->Prop}{t:TypeId}{x k v:AV}{h':AH}(he:mapUpdate? K.P K.O h t x k v=.ok h'){Q:Unit->World->Prop}(hq:∀w',Rel K ρ h' w'->cE K.own w w'->Q () w'):wq K.P K.Ev E (Instr.mapUpdate t (x.ev ρ) (k.ev ρ) (v.ev ρ)) Q w:=by
 unfold mapUpdate? at he;split at he
 ·rename_i key elem i hu;split at he
  ·rename_i es hb;split at he
   ·rename_i hk;split at he
    ·rename_i hf;cases he;obtain⟨o,h1,h2⟩:=R.kj _ _ hb;obtain⟨arr,qV,rfl,h3⟩:=Ka h2;have own:=R.own _ _ hb rfl;simp only[Instr.mapUpdate,bG,b_ hu,AV.ev,af,BR.ev];refine n9 h1 (by intros;simp) (G.obj _ _ _ own) ?_;simp only[bG];refine py hk ?_;refine vh R hk h3 hf ?_;refine DI h1 (by intros;simp) (G.obj _ _ _ own) ?_;obtain⟨r1,r2⟩:=R.aiv hb (b':=.map (es++[(k,v)])) (o':=.map (arr.push {key:=k.ev ρ,val:=v.ev ρ,born:=qV}) (qV+1)) (.inr ⟨_,_,rfl,by simp[h3]⟩) rfl (fun n hn=>by cases hn);exact hq _ r1 r2
    ·cases he
    ·cases he
   ·cases he
  ·rename_i s n fs ws hb;split at he
   ·rename_i hv;cases he;obtain⟨i',s',n',W6,a,hx,qj,rfl,hks,qX⟩:=xM hv;cases hx;rw[hb]at qj;cases qj;obtain⟨o,h1,h2⟩:=R.kj _ _ hb;obtain⟨arr,qV,L,rfl,h3,h4,h5,h6⟩:=Fo h2;have own:=R.own _ _ hb rfl;have hK:wa ρ (arr.toList.map fun e=>(e.key,e.val)) a none:=by
     rw[h5,ak,aX];exact h6 _ qX
    simp only[Instr.mapUpdate,bG,b_ hu,AV.ev,af,BR.ev];refine n9 h1 (by intros;simp) (G.obj _ _ _ own) ?_;simp only[bG];refine py (wp hks) ?_;refine sQ hks hK ?_;refine DI h1 (by intros;simp) (G.obj _ _ _ own) ?_;obtain⟨r1,r2⟩:=R.aiv hb (b':=.iY s n fs ([]++[(.ptr (some a),v)])) (o':=.map (arr.push {key:=.pointer (some (a.ev ρ)),val:=v.ev ρ,born:=qV}) (qV+1)) (.inr ⟨_,_,L,rfl,h3,h4,by simp[h5,AV.ev],h6⟩) rfl (fun n hn=>by cases hn);exact hq _ r1 r2
   ·cases he
  ·cases he
 ·cases he
end
def iy.ev(ρ:cn):iy->Target
 |.fn f c=>.fn f (AV.cf ρ c).toArray
 |.builtin b a t c=>.builtin b a t c
def AD.ev(ρ:cn)(d:AD):Deferred:={target:=d.target.ev ρ,args:=(AV.cf ρ d.args).toArray}
def iy.In(U:Nat->Prop):iy->Prop
 |.fn _ c=>AV.iB U c
 |.builtin _ _ _ _=>True
def AD.In(U:Nat->Prop)(d:AD):Prop:=d.target.In U∧AV.iB U d.args
def AN.is(ρ:cn):AN->Next->Prop
 |.value v,nx=>nx=.value (v.ev ρ)
 |.skip,nx=>nx=.skip
 |.enter f args,nx=>nx=.enter f (AV.cf ρ args).toArray
 |.defer d,nx=>nx=.defer (d.ev ρ)
 |.recover,nx=>nx=.recover
 |.panic _,_=>False
def AN.In(U:Nat->Prop):AN->Prop
 |.value v=>v.In U
 |.skip=>True
 |.enter _ args=>AV.iB U args
 |.defer d=>d.In U
 |.recover=>True
 |.panic v=>v.In U
structure vT(K:ik)(U:Nat->Prop)(ρ:cn)(h:AH)(w:World)(s:Sem Next)(n:AN)(h':AH):Prop where
 mem:n.In (plus U h.nb h'.nb)
 uF:d6 K U h h'
 run:∀{E:Value->World->Prop} {Q:Next->World->Prop},(∀nx w',f_ K U ρ w h' (fun bL=>n.is bL nx) w'->Q nx w')->(∀v,n=.panic v->h'=h->E (v.ev ρ) w)->wq K.P K.Ev E s Q w
section
variable {K:ik}{ρ:cn}{h:AH}{w:World}{U:Nat->Prop}
theorem iT{r:M AV}{n:AN}{h':AH}(he:k0 r h=.ok (n,h')):∃v,r=.ok v∧n=.value v∧h'=h:=by
 unfold k0 at he;split at he
 ·cases he;exact⟨_,rfl,rfl,rfl⟩
 ·cases he
theorem jD{r:M (AV×AH)}{n:AN}{h':AH}(he:mC r=.ok (n,h')):∃v,r=.ok (v,h')∧n=.value v:=by
 unfold mC at he;split at he
 ·cases he;exact⟨_,rfl,rfl⟩
 ·cases he
theorem DL{r:M AH}{n:AN}{h':AH}(he:EZ r=.ok (n,h')):r=.ok h'∧n=.skip:=by
 unfold EZ at he;split at he
 ·cases he;exact⟨rfl,rfl⟩
 ·cases he
theorem qk.next{s:Sem Value}{v:AV}{h':AH}(H:qk K U ρ h w s v h'):vT K U ρ h w (do Pure.pure (.value (<-s))) (.value v) h':=
 ⟨H.mem,H.uF,fun hq _=>by simp only[bG,bO];exact H.run fun x w' ⟨bL,a1,a2,a3,a4⟩=>hq _ _ ⟨bL,a1,a2,a3,by rw[a4];rfl⟩⟩
theorem vT.pure(R:Rel K ρ h w)(I:h_ K U h){s:Sem Value}{v:AV}(hi:v.In U)(hw:∀{E Q:Value->World->Prop},Q (v.ev ρ) w->wq K.P K.Ev E s Q w):vT K U ρ h w (do Pure.pure (.value (<-s))) (.value v) h:=
 (qk.pure R I hi hw).next
theorem ac_{E:Value->World->Prop}{argTypes:Array TypeId}{ty t:TypeId}{x:AV}{e:IE}(ht:argTypes[0]?=some t)(R:Rel K ρ h w)(G:K.Good)(he:lenOf? K.P h t x=.ok e){Q:Value->World->Prop}(hq:Q (.int .i64 (e.ev ρ)) w):
  wq K.P K.Ev E (Builtin.len_ argTypes ty #[x.ev ρ]) Q w:=by
 unfold lenOf? at he;simp only[bN]at he;obtain⟨D,hD,he⟩:=he;simp only[Builtin.len_,ht,bw,List.getElem?_cons_zero,bG,b_ (dT hD)];split at he
 ·rw[bV]at he;subst he;exact hq
 ·rw[bV]at he;subst he;simp only;exact hq
 ·rw[bV]at he;subst he;exact hq
 ·rw[bV]at he;subst he;exact hq
 ·rw[bV]at he;subst he;exact hq
 ·rw[bV]at he;subst he;exact hq
 ·rename_i i;split at he
  ·rename_i es hb;rw[bV]at he;subst he;obtain⟨o,h1,h2⟩:=R.kj _ _ hb;obtain⟨arr,qV,rfl,h3⟩:=Ka h2;simp only[AV.ev,af,BR.ev,bG];refine n9 h1 (by intros;simp) (G.obj _ _ _ (R.own _ _ hb rfl)) ?_;have:arr.size=es.length:=by have:=congrArg List.length h3;simpa using this
   simp only[this];exact hq
  ·rename_i s n fs ws hb;split at he
   ·rw[bV]at he;subst he;obtain⟨o,h1,h2⟩:=R.kj _ _ hb;obtain⟨arr,qV,L,rfl,h3,h4,h5,h6⟩:=Fo h2;simp only[AV.ev,af,BR.ev,bG];refine n9 h1 (by intros;simp) (G.obj _ _ _ (R.own _ _ hb rfl)) ?_;have:arr.size=(n.ev ρ).toNat:=by
     have:=congrArg List.length h5;rw[<-h4];simpa using this
    simp only[this];exact hq
   ·cases he
  ·cases he
 ·cases he
theorem Ot(I:h_ K U h){t:TypeId}{x:AV}{e:IE}(he:lenOf? K.P h t x=.ok e)(hx:x.In U):e.In U:=by
 unfold lenOf? at he;simp only[bN]at he;obtain⟨D,hD,he⟩:=he;split at he
 ·rw[bV]at he;subst he;trivial
 ·rw[bV]at he;subst he;trivial
 ·rw[bV]at he;subst he;exact hx.2.1
 ·rw[bV]at he;subst he;trivial
 ·rw[bV]at he;subst he;trivial
 ·rw[bV]at he;subst he;trivial
 ·split at he
  ·rw[bV]at he;subst he;trivial
  ·rename_i s n fs ws hb;split at he
   ·rw[bV]at he;subst he;exact(I.hp _ _ hb).1
   ·cases he
  ·cases he
 ·cases he
theorem ac'(R:Rel K ρ h w){E:Value->World->Prop}:∀{l:List AV} {x v:AV},minMax? K.O false x l=.ok v->∀{Q:Value->World->Prop},Q (v.ev ρ) w->wq K.P K.Ev E ((AV.cf ρ l).foldlM Builtin.min2 (x.ev ρ)) Q w:=by
 intro l
 induction l with
 |nil=>intro x v he Q hq;simp[minMax?]at he;subst he;exact hq
 |cons y l ih=>
  intro x v he Q hq;unfold minMax? at he;split at he
  ·rename_i Fm;cases Fm
  ·rename_i k x' k' y' l' hl;cases hl;split at he
   ·rename_i hk;subst hk;simp only[bN]at he;obtain⟨t,ht,he⟩:=he;have hd:=pT R ht;simp only[aR,if_false,BE.ev,G2]at hd;simp only[AV.cf,List.foldlM_cons,bG,AV.ev,Builtin.min2,bO];have:=ih he hq;simp only[AV.ev]at this;by_cases dU:y'.ev ρ<x'.ev ρ
    ·rw[if_pos dU];have QT:t=true:=by rw[<-hd];exact decide_eq_true dU
     subst QT;exact this
    ·rw[if_neg dU];have QT:t=false:=by rw[<-hd];exact decide_eq_false dU
     subst QT;exact this
   ·cases he
  ·cases he
theorem ada(R:Rel K ρ h w){E:Value->World->Prop}:∀{l:List AV} {x v:AV},minMax? K.O true x l=.ok v->∀{Q:Value->World->Prop},Q (v.ev ρ) w->wq K.P K.Ev E ((AV.cf ρ l).foldlM Builtin.max2 (x.ev ρ)) Q w:=by
 intro l
 induction l with
 |nil=>intro x v he Q hq;simp[minMax?]at he;subst he;exact hq
 |cons y l ih=>
  intro x v he Q hq;unfold minMax? at he;split at he
  ·rename_i Fm;cases Fm
  ·rename_i k x' k' y' l' hl;cases hl;split at he
   ·rename_i hk;subst hk;simp only[bN]at he;obtain⟨t,ht,he⟩:=he;have hd:=pT R ht;simp only[if_true,BE.ev,G2]at hd;simp only[AV.cf,List.foldlM_cons,bG,AV.ev,Builtin.max2,bO];have:=ih he hq;simp only[AV.ev]at this;by_cases dU:y'.ev ρ>x'.ev ρ
    ·rw[if_pos dU];have QT:t=true:=by rw[<-hd];exact decide_eq_true dU
     subst QT;exact this
    ·rw[if_neg dU];have QT:t=false:=by rw[<-hd];exact decide_eq_false dU
     subst QT;exact this
   ·cases he
  ·cases he
theorem AL{O:dP}{mx:Bool}:∀{l:List AV} {x v:AV},minMax? O mx x l=.ok v->x.In U->AV.iB U l->v.In U:=by
 intro l
 induction l with
 |nil=>intro x v he hx _;simp[minMax?]at he;subst he;exact hx
 |cons y l ih=>
  intro x v he hx hl;unfold minMax? at he;split at he
  ·rename_i Fm;cases Fm
  ·rename_i k x' k' y' l' we;cases we;split at he
   ·simp only[bN]at he;obtain⟨t,ht,he⟩:=he;refine ih he ?_ hl.2;cases t
    ·exact hx
    ·exact hl.1
   ·cases he
  ·cases he
theorem RQ(G:K.Good)(R:Rel K ρ h w)(I:h_ K U h){argTypes:Array TypeId}{ty:TypeId}{d s v:AV}{h':AH}(hdi:d.In U)(he:copy? K.P K.O h argTypes d s=.ok (v,h')):qk K U ρ h w (Builtin.copy_ argTypes ty #[d.ev ρ,s.ev ρ]) v h':=by
 unfold copy? at he;split at he
 ·rename_i abh h0;simp only[bN]at he;obtain⟨D,hD,he⟩:=he;split at he
  ·rename_i elem;simp only[bN]at he;obtain⟨size,hs,he⟩:=he;split at he
   ·rename_i base dl c sb sl c2;simp only[bN]at he;obtain⟨m,hm,n,hn,new,iS,he⟩:=he;obtain rfl:=jB hm;obtain rfl:=jB hn;have e0:(Int.ofNat m).toNat=m:=rfl;have e1:(Int.ofNat n).toNat=n:=rfl;have first:∀{E:Value->World->Prop} {Q':Array Value->World->Prop},Q' (AV.cf ρ new).toArray w->wq K.P K.Ev E (Builtin.firstCells size (Nat.min m n) (.slice (sb.map (AA.ev ρ)) m (c2.ev ρ).toNat)) Q' w:=by
     intro E Q' km;unfold copyFrom? at iS;split at iS
     ·simp only[af,Builtin.firstCells,loadCells];exact mP R G iS (by simpa using km)
     ·cases iS;exact km
    have apa:AV.iB U new:=by
     unfold copyFrom? at iS;split at iS
     ·exact wg I iS
     ·cases iS;trivial
    have lR:∀{E:Value->World->Prop} {Q:Value->World->Prop},wq K.P K.Ev E (do
      if let some a:=base.map (AA.ev ρ)then storeCells a (AV.cf ρ new)
      Pure.pure (goInt (Nat.min m n:Nat)):Sem Value) Q w->wq K.P K.Ev E (Builtin.copy_ argTypes ty #[(AV.slice base (.lit (.ofNat n)) c).ev ρ,(AV.slice sb (.lit (.ofNat m)) c2).ev ρ]) Q w:=by
     intro E Q hq;simp only[Builtin.copy_,h0,bw,List.getElem?_cons_zero,List.getElem?_cons_succ,bG,b_ (dT hD),AV.ev,IE.ev,e0,e1,Builtin.lenOf,bO,d3 hs];refine first ?_
     exact hq
    unfold copyTo? at he;split at he
    ·rename_i a;split at he
     ·rename_i h2 di;cases he;have hnb:=xK di;refine⟨trivial,d6.zJ (vd hdi.1 I di apa) hnb.1 hnb.2,fun{E Q} hq=>lR ?_⟩;simp only[af,bG];refine qY G R di fun w' r1 r2 _ _=>?_;exact hq _ _ ⟨ρ,cz.refl _ _,r1,r2,rfl⟩
     ·cases he
    ·cases he;refine qk.pure R I trivial fun{E Q} hq=>lR ?_;simp only[bu,bG,bO];exact hq
   ·cases he
  ·cases he
 ·cases he
theorem Hp(G:K.Good)(R:Rel K ρ h w)(I:h_ K U h){b:Builtin}{argTypes:Array TypeId}{ty:TypeId}{consts:Array Bool}{args:List AV}{n:AN}{h':AH}(ha:AV.iB U args)(he:builtin? K.P K.O h b argTypes args=.ok (n,h')):
  vT K U ρ h w (builtin b argTypes ty consts (AV.cf ρ args).toArray) n h':=by
 unfold builtin? at he;split at he
 ·rename_i x;split at he
  ·rename_i t ht;split at he
   ·rename_i e hl;cases he;exact vT.pure R I (v:=.int .i64 (K.O.int e)) (ve I (Ot I hl ha.1)) fun{E Q} hq=>ac_ ht R G hl (by simpa only[AV.ev,oz R] using hq)
   ·cases he
  ·cases he
 ·rename_i a l c;split at he
  ·rename_i t ht;split at he
   ·rename_i elem hD;cases he;refine vT.pure R I (v:=.int .i64 (K.O.int (.tn c))) (ve I ha.1.2.2) fun{E Q} hq=>?_;simp only[AV.ev,oz R,IE.ev]at hq;simp only[AV.cf,AV.ev,Builtin.cap_,ht,bw,List.getElem?_cons_zero,bG,b_ (dT hD),bO];exact hq
   ·cases he
  ·cases he
 ·obtain⟨v,hv,rfl⟩:=jD he;exact(J' G R I ha.1 ha.2.1 hv).next
 ·obtain⟨v,hv,rfl⟩:=jD he;exact(RQ G R I ha.1 hv).next
 ·rename_i x l;obtain⟨v,hv,rfl,rfl⟩:=iT he;exact vT.pure R I (AL hv ha.1 ha.2) fun{E Q} hq=>ac' R hv hq
 ·rename_i x l;obtain⟨v,hv,rfl,rfl⟩:=iT he;exact vT.pure R I (AL hv ha.1 ha.2) fun{E Q} hq=>ada R hv hq
 ·cases he;exact⟨trivial,d6.refl I,fun hq _=>hq _ _ (f_.eL R rfl)⟩
 ·rename_i t v;cases he;exact⟨AV.In.mono cG (.iface t v) ha.1,d6.refl I,fun hq hE=>hE _ rfl rfl⟩
 ·cases he
end
def CZ(P:Program)(f:FuncId):Bool:=
 match P.funcs[f]? with
 |some fn=>!(fn.name== "runtime.NumGoroutine")&&fn.body.isSome
 |none=>false
structure ko(P:Program)(f:FuncId)(e:Array Value->Sem Value):Prop where
 aiw:∃fn,P.funcs[f]?=some fn∧(fn.name== "runtime.NumGoroutine")=false∧fn.body.isNone=true∧Extern.findNext fn=none∧Extern.find fn=some e
structure ik.il(K:ik):Prop where
 Jv:K.O.Jv.all (CZ K.P)=true
 ext:∀p∈K.O.ext,ko K.P p.1 p.2
 mixed:K.P.follows .mixedOrders=true
section
variable {K:ik}{ρ:cn}{h:AH}{w:World}{U:Nat->Prop}
theorem Hq{E:Value->World->Prop}{f:FuncId}{args:Array Value}(hf:CZ K.P f=true){Q:Next->World->Prop}(hq:Q (.enter f args) w):wq K.P K.Ev E (callFunc f args) Q w:=by
 unfold CZ at hf;split at hf
 ·rename_i fn hfn;simp only[ax,Bool.not_eq_true']at hf;simp only[callFunc,bG,jz,hfn];rw[if_neg (by rw[hf.1];simp),if_neg (by have:=hf.2;revert this;cases fn.body<;>simp)];exact hq
 ·cases hf
theorem DM(G:K.Good){E:Value->World->Prop}{f:FuncId}{e:Array Value->Sem Value}{args:Array Value}(hf:ko K.P f e){Q:Next->World->Prop}(hq:wq K.P K.Ev E (e args) (fun v w=>Q (.value v) w) w):wq K.P K.Ev E (callFunc f args) Q w:=by obtain⟨fn,h1,h2,h3,h4,h5⟩:=hf.aiw;simp only[callFunc,bG,jz,h1];rw[if_neg (by rw[h2];simp),if_pos h3];simp only[bG,pp,h4,h5,bO];exact⟨G.ext _ rfl,hq⟩
def ib(K:ik)(ext:Ext):Prop:=∀{U:Nat->Prop} {ρ:cn} {h:AH} {w:World} {f:FuncId} {args:List AV} {v:AV} {h':AH},Rel K ρ h w->h_ K U h->AV.iB U args->ext h f args=.ok (v,h')->
 vT K U ρ h w (callFunc f (AV.cf ρ args).toArray) (.value v) h'
theorem wu(G:K.Good)(F:K.il){ext:Ext}(X:ib K ext)(R:Rel K ρ h w)(I:h_ K U h){f:FuncId}{args:List AV}{n:AN}{h':AH}(ha:AV.iB U args)(he:invokeFn? K.P K.O ext h f args=.ok (n,h')):
  vT K U ρ h w (callFunc f (AV.cf ρ args).toArray) n h':=by
 have Kd:∀{r:M (AV×AH)},r=ext h f args->(match r with|.ok (v,h)=>(.ok (.value v,h):M (AN×AH))|.error e=>.error e)=.ok (n,h')->vT K U ρ h w (callFunc f (AV.cf ρ args).toArray) n h':=by
  intro r hr hh;split at hh
  ·cases hh;exact X R I ha hr.symm
  ·cases hh
 unfold invokeFn? at he;split at he
 ·rename_i hc;cases he;have hf:CZ K.P f=true:=aO.1 F.Jv f (by simpa using hc);exact⟨AV.iB.mono cG _ ha,d6.refl I,fun hq _=>Hq hf (hq _ _ (f_.eL R rfl))⟩
 ·split at he
  ·rename_i e hl;obtain⟨x,hx,hxe⟩:=iv hl;have:f=x:=by simpa using hxe
   subst this;split at he
   ·rename_i vs Mr;split at he
    ·rename_i v hv;cases he;refine⟨oy _,d6.refl I,fun hq _=>DM G (F.ext _ hx) ?_⟩;rw[n7 ρ args Mr];exact iG hv (hq _ _ (f_.eL R (by simp[AN.is,ox])))
    ·exact Kd rfl he
   ·exact Kd rfl he
  ·exact Kd rfl he
theorem Ou{E:Value->World->Prop}{t:TypeId}{v r:AV}{name:String}{f:FuncId}(he:method? K.P t v name=.ok (f,r)){Q:FuncId×Value->World->Prop}(hq:Q (f,r.ev ρ) w):
  wq K.P K.Ev E (method (K.P.types.size+Made.depth) t (v.ev ρ) name) Q w:=by
 unfold method? at he;split at he
 ·cases he
 ·rename_i i hi;split at he
  ·cases he
  ·rename_i m hm;split at he
   ·rename_i hp;obtain⟨d,hd⟩:∃d,K.P.types.size+Made.depth=d+1:=⟨K.P.types.size+99,rfl⟩;have hpe:m.path.toList=[]:=by simpa using hp
    rw[hd];simp only[method,bG,dZ hi,hm,hpe,follow,bO];split at he
    ·rename_i f' hf;split at he
     ·rename_i e hu;cases he;simp only[hf,receiverAt,bG,b_ hu,Place.get,bO];exact hq
     ·cases he
    ·rename_i f' hf;split at he
     ·cases he
     ·rename_i D hnp hu;cases he;simp only[hf,receiverAt,bG,b_ hu];cases D<;>first
       |exact absurd hu (hnp _)
       |exact hq
     ·cases he
    ·cases he
   ·split at he
    ·rename_i u hu;split at he
     ·rename_i f' r' hr;cases he;rw[Fb ρ v hu];exact iG hr (by simpa[ox] using hq)
     ·cases he
    ·cases he
theorem Ke{P:Program}{t:TypeId}{v r:AV}{name:String}{f:FuncId}(he:method? P t v name=.ok (f,r))(hv:v.In U):r.In U:=by
 unfold method? at he;split at he
 ·cases he
 ·split at he
  ·cases he
  ·split at he
   ·split at he
    all_goals try (split at he)
    all_goals first|(cases he;exact hv)|cases he
   ·split at he
    ·split at he
     ·cases he;exact oy _
     ·cases he
    ·cases he
theorem vi(G:K.Good)(F:K.il){ext:Ext}(X:ib K ext)(R:Rel K ρ h w)(I:h_ K U h){d:AD}{n:AN}{h':AH}(hd:d.In U)(he:invoke? K.P K.O ext h d=.ok (n,h')):
  vT K U ρ h w (invoke (d.target.ev ρ) (AV.cf ρ d.args).toArray) n h':=by
 obtain⟨target,args⟩:=d;obtain⟨xy,Kf⟩:=hd;unfold invoke? at he;dsimp only at he xy Kf⊢;split at he
 ·exact Hp G R I Kf he
 ·rename_i f captured;have e:invoke (iy.ev ρ (.fn (.func f) captured)) (AV.cf ρ args).toArray=callFunc f (AV.cf ρ (args++captured)).toArray:=by
   simp[iy.ev,invoke,fp]
  rw[e];exact wu G F X R I (dg.2 fun a ha=>(ay.1 ha).elim (dg.1 Kf a) (dg.1 xy a)) he
 ·rename_i name captured;split at he
  ·rename_i t v uI;split at he
   ·rename_i f r hm;have hr:=Ke hm Kf.1;obtain⟨r1,r2,r3⟩:=wu G F X R I (args:=r::uI) ⟨hr,Kf.2⟩ he;refine⟨r1,r2,fun{E Q} hq hE=>?_⟩;have e:(AV.cf ρ (AV.iface t v::uI)).toArray=#[.iface t (v.ev ρ)]++(AV.cf ρ uI).toArray:=by simp[AV.cf,AV.ev]
    simp only[iy.ev,invoke,e];have e0:(#[Value.iface t (v.ev ρ)]++(AV.cf ρ uI).toArray)[0]?=some (.iface t (v.ev ρ)):=by simp
    have e1:(#[Value.iface t (v.ev ρ)]++(AV.cf ρ uI).toArray).extract 1 (#[Value.iface t (v.ev ρ)]++(AV.cf ρ uI).toArray).size=(AV.cf ρ uI).toArray:=by simp
    rw[e0];simp only[callMethod,e1,bG,jz];refine Ou hm ?_;have e2:#[r.ev ρ]++(AV.cf ρ uI).toArray=(AV.cf ρ (r::uI)).toArray:=by simp[AV.cf]
    simp only[e2];exact r3 hq hE
   ·cases he
  ·cases he
 ·cases he
theorem Hr(I:h_ K U h){t:TypeId}{a:AA}{v:AV}{h':AH}(hs:storeS? K.P K.O h t a v=.ok h')(ha:a.In U)(hv:v.In U):h_ K U h'∧h'.nb=h.nb∧h'.eH=h.eH:=by
 have old:∀{h':AH},storeVar? K.P h t a v=.ok h'->h_ K U h'∧h'.nb=h.nb∧h'.eH=h.eH:=fun hs=>by
  refine⟨uC I hs ha hv,?_⟩;unfold storeVar? at hs;simp only[bN]at hs;obtain⟨cs,hc,nn,hn,hs⟩:=hs;split at hs
  ·exact xK hs
  ·cases hs
 unfold storeS? at hs;split at hs
 ·split at hs
  ·unfold storeRow? at hs;simp only[bN]at hs;obtain⟨cs,hc,hs⟩:=hs;split at hs
   ·simp only[bN]at hs;obtain⟨size,hsz,ok,hok,n,hn,hs⟩:=hs;split at hs<;>cases hs;exact⟨I,rfl,rfl⟩
   ·cases hs
  ·exact old hs
 ·exact old hs
theorem rg{E:Value->World->Prop}{wv:Operand->AV}{c:Call}{ty:TypeId}{d:AD}(he:resolve? wv c ty=.ok d){Q:Deferred->World->Prop}(hq:Q (d.ev ρ) w):wq K.P K.Ev E (resolve (fun x=>(wv x).ev ρ) c ty) Q w:=by
 have pz:c.args.map (fun x=>(wv x).ev ρ)=(AV.cf ρ (c.args.toList.map wv)).toArray:=by rw[jT,List.map_map];apply bD.1;simp[Function.comp_def]
 unfold resolve? at he;split at he
 ·rename_i b hb;cases he;simp only[resolve,hb,pz,bO];exact hq
 ·rename_i recv name hb;cases he;simp only[resolve,hb,pz,bO];have:#[(wv recv).ev ρ]++(AV.cf ρ (c.args.toList.map wv)).toArray=(AV.cf ρ (wv recv::c.args.toList.map wv)).toArray:=by simp[AV.cf]
  rw[this];exact hq
 ·rename_i f hb;split at he
  ·rename_i fn first captured hf
   cases he;simp only[resolve,hb,pz,hf,AV.ev,Deferred.ofValue,bO];have:(AV.cf ρ first).toArray++(AV.cf ρ (c.args.toList.map wv)).toArray=(AV.cf ρ (first++c.args.toList.map wv)).toArray:=by simp[fp]
   rw[this];exact hq
  ·cases he
theorem pC{wv:Operand->AV}{c:Call}{ty:TypeId}{d:AD}(he:resolve? wv c ty=.ok d)(hA:∀x,(wv x).In U):d.In U:=by
 have pz:AV.iB U (c.args.toList.map wv):=dg.2 fun a ha=>by obtain⟨x,_,rfl⟩:=aJ.1 ha;exact hA x
 unfold resolve? at he;split at he
 ·cases he;exact⟨trivial,pz⟩
 ·cases he;exact⟨trivial,hA _,pz⟩
 ·rename_i f hb;split at he
  ·rename_i fn first captured hf
   cases he;have:=hA f;rw[hf]at this;exact⟨this.2,dg.2 fun a ha=>(ay.1 ha).elim (dg.1 this.1 a) (dg.1 pz a)⟩
  ·cases he
theorem RR(G:K.Good)(F:K.il){ext:Ext}(X:ib K ext)(R:Rel K ρ h w)(I:h_ K U h){wv:Operand->AV}(hA:∀x,(wv x).In U){o:Oper}{n:AN}{h':AH}(he:op? K.P K.O ext h wv o=.ok (n,h')):
  vT K U ρ h w (execOp (fun x=>(wv x).ev ρ) o) n h':=by
 have aix:∀(parts:Array (Nat×Operand)),(parts.map fun(i,x)=>(i,(wv x).ev ρ))=((parts.toList.map fun(i,x)=>(i,wv x)).map fun p=>(p.1,p.2.ev ρ)).toArray:=fun parts=>by apply bD.1;simp[Function.comp_def]
 have in2:∀(parts:Array (Nat×Operand)),∀p∈(parts.toList.map fun(i,x)=>(i,wv x)),p.2.In U:=fun parts p hp=>by obtain⟨q,_,rfl⟩:=aJ.1 hp;exact hA _
 have inm:∀(l:List Operand),AV.iB U (l.map wv):=fun l=>dg.2 fun a ha=>by obtain⟨x,_,rfl⟩:=aJ.1 ha;exact hA x
 have AM:∀{v:AV},v.In U->(AN.value v).In (plus U h.nb h.nb):=fun hv=>AV.In.mono cG _ hv;unfold op? at he;unfold execOp;split at he
 ·rename_i x ho;cases he;simp only[ho];exact⟨AM (hA x),d6.refl I,fun hq _=>hq _ _ (f_.eL R rfl)⟩
 ·rename_i x ho;cases he;simp only[ho];exact⟨AM (hA x),d6.refl I,fun hq _=>hq _ _ (f_.eL R rfl)⟩
 ·rename_i c a b ho;simp only[ho];split at he
  ·rename_i t ht;split at he
   ·rename_i t' QT;cases he;have hb:=oA R QT;refine⟨AM (by split;exact hA a;exact hA b),d6.refl I,fun hq _=>?_⟩;simp only[ht,AV.ev,asBool,bG,bO,hb];exact hq _ _ (f_.eL R (by cases t'<;>rfl))
   ·cases he
  ·cases he
 ·rename_i elem ho;simp only[ho];split at he
  ·rename_i z hz;split at he
   ·rename_i cs hc;obtain⟨v,hv,rfl⟩:=jD he;exact(RH R I hz hc hv).next
   ·cases he
  ·cases he
 ·rename_i elem x ho;simp only[ho];split at he
  ·rename_i cs hc;obtain⟨v,hv,rfl⟩:=jD he;exact(acX R I (hA x) hc hv).next
  ·cases he
 ·rename_i t parts ho;simp only[ho];obtain⟨v,hv,rfl,rfl⟩:=iT he;rw[aix];exact vT.pure R I (Oh hv (in2 parts)) fun{E Q} hq=>RG hv hq
 ·rename_i t len parts ho;simp only[ho];obtain⟨v,hv,rfl⟩:=jD he;rw[aix];exact(CW R I (in2 parts) hv).next
 ·rename_i t a ho;simp only[ho];split at he
  ·rename_i a' ha;obtain⟨v,hv,rfl,rfl⟩:=iT he;refine vT.pure R I (pt I hv) fun{E Q} hq=>?_;rw[k_ ha];simp only[Instr.loadAt,AV.ev,af,Instr.sureAddr,bG,bO];exact mf R G hv hq
  ·cases he
 ·rename_i t a x ho;simp only[ho];split at he
  ·rename_i a' ha;obtain⟨hv,rfl⟩:=DL he;obtain⟨I',hnb⟩:=Hr I hv (by have:=hA a;rw[k_ ha]at this;exact this) (hA x);refine⟨trivial,d6.zJ I' hnb.1 hnb.2,fun hq _=>?_⟩;rw[k_ ha];simp only[Instr.storeAt,AV.ev,af,Instr.sureAddr,bG,bO];exact N9 R G hv fun w' r1 r2=>hq _ _ ⟨ρ,cz.refl _ _,r1,r2,rfl⟩
  ·cases he
 ·rename_i x ho;simp only[ho];split at he
  ·rename_i a ha;cases he;have hx:=hA x;rw[ha]at hx;refine⟨AM hx,d6.refl I,fun hq _=>?_⟩;simp only[ha,AV.ev,af,bO];exact hq _ _ (f_.eL R rfl)
  ·rename_i t v ha;cases he;have hx:=hA x;rw[ha]at hx;refine⟨AM hx,d6.refl I,fun hq _=>?_⟩;simp only[ha,AV.ev,bO];exact hq _ _ (f_.eL R rfl)
  ·rename_i f a b ha;cases he;have hx:=hA x;rw[ha]at hx;refine⟨AM hx,d6.refl I,fun hq _=>?_⟩;simp only[ha,AV.ev,bO];exact hq _ _ (f_.eL R rfl)
  ·cases he
 ·rename_i op t x y yt ho;simp only[ho];split at he
  ·rename_i hg;obtain⟨v,hv,rfl,rfl⟩:=iT he;refine vT.pure R I (Oe I hv (hA x) (hA y)) fun{E Q} hq=>?_;rw[bG];exact JZ hg (Ry R hv hq)
  ·cases he
 ·rename_i ty x ho;simp only[ho];split at he
  ·rename_i b hb;split at he
   ·rename_i c hc;cases he;have hx:=hA x;rw[hb]at hx;refine vT.pure R I (v:=.bool (K.O.bool c)) (Fd (Mt hc hx)) fun{E Q} hq=>?_;simp only[hb,AV.ev,Op.unary,bO];simp only[AV.ev,zG R,Ms hc]at hq;exact hq
   ·cases he
  ·cases he
 ·rename_i ty x ho;simp only[ho];split at he
  ·rename_i k e hb;cases he;have hx:=hA x;rw[hb]at hx;refine vT.pure R I (v:=.int k (K.O.int (.op .sub k (.lit 0) e))) (ve I ⟨trivial,hx⟩) fun{E Q} hq=>?_;simp only[hb,AV.ev,Op.unary,Op.intArith,bO];simp only[AV.ev,oz R,IE.ev,o0]at hq;exact hq
  ·cases he
 ·rename_i src dst x ho;simp only[ho];obtain⟨v,hv,rfl,rfl⟩:=iT he;exact vT.pure R I (Hk I hv (hA x)) fun{E Q} hq=>J4 R hv hq
 ·rename_i t x ho;simp only[ho];split at he
  ·cases he
  ·rename_i D hD Jy;cases he;refine vT.pure R I (v:=.iface t (wv x)) (hA x) fun{E Q} hq=>?_;simp only[Instr.makeInterface,bG,b_ Jy];cases D<;>first
    |exact absurd Jy (hD _)
    |exact hq
  ·cases he
 ·rename_i fn first captured ho
  simp only[ho];cases he;refine vT.pure R I (v:=.func fn (first.toList.map wv) (captured.toList.map wv)) ⟨inm _,inm _⟩ fun{E Q} hq=>?_;have e1:∀(l:Array Operand),l.map (fun x=>(wv x).ev ρ)=(AV.cf ρ (l.toList.map wv)).toArray:=fun l=>by rw[jT,List.map_map];apply bD.1;simp[Function.comp_def]
  simp only[Instr.makeFunc,e1,bO];exact hq
 ·rename_i t l c ho;simp only[ho];obtain⟨v,hv,rfl⟩:=jD he;have:=(CX G R I (Hb I (hA c)) hv).next;rw[sK R,sK R]at this;exact this
 ·rename_i t x lo hi mx ho;simp only[ho];obtain⟨v,hv,rfl,rfl⟩:=iT he;refine vT.pure R I (Hj hv (hA x)) fun{E Q} hq=>?_;have:=Aw (K:=K) (ρ:=ρ) (w:=w) (E:=E) hv hq;simpa only[Option.map_map,Function.comp_def,sK R] using this
 ·rename_i s x f ho;simp only[ho];obtain⟨v,hv,rfl,rfl⟩:=iT he;exact vT.pure R I (CT hv (hA x)) fun{E Q} hq=>J0 hv hq
 ·rename_i t x f ho;simp only[ho];obtain⟨v,hv,rfl,rfl⟩:=iT he;exact vT.pure R I (Og hv (hA x)) fun{E Q} hq=>RC hv hq
 ·rename_i t x ix ho;simp only[ho];obtain⟨v,hv,rfl,rfl⟩:=iT he;exact vT.pure R I (CU hv (hA x) (Hb I (hA ix))) fun{E Q} hq=>by have:=J2 (E:=E) R hv hq;rw[sK R]at this;exact this
 ·rename_i t x ix ho;simp only[ho];obtain⟨v,hv,rfl,rfl⟩:=iT he;exact vT.pure R I (Hi hv (hA x)) fun{E Q} hq=>by have:=RD (K:=K) (ρ:=ρ) (w:=w) (E:=E) hv hq;rw[sK R]at this;exact this
 ·rename_i x xt asserted ok ho;simp only[ho];obtain⟨v,hv,rfl,rfl⟩:=iT he;exact vT.pure R I (Ax hv (hA x)) fun{E Q} hq=>CV hv hq
 ·rename_i t ix ho;simp only[ho];split at he
  ·rename_i vs Mr;split at he
   ·rename_i v hv;cases he;have hx:=hA t;rw[Mr]at hx;refine vT.pure R I (v:=v) (dg.1 hx _ (bf hv)) fun{E Q} hq=>?_;simp only[Mr,AV.ev,Instr.extract];have:(AV.cf ρ vs).toArray[ix]?=some (v.ev ρ):=by rw[bw,pq,hv];rfl
    rw[this];exact hq
   ·cases he
  ·cases he
 ·rename_i c ho;simp only[ho];split at he
  ·rename_i d hd;obtain⟨r1,r2,r3⟩:=vi G F X R I (pC hd hA) he;exact⟨r1,r2,fun{E Q} hq hE=>by simp only[bG];exact rg (ρ:=ρ) hd (r3 hq hE)⟩
  ·cases he
 ·rename_i c ho;simp only[ho];split at he
  ·rename_i d hd;cases he;have hin:=pC hd hA;refine⟨⟨by have:=hin.1;revert this;cases d.target<;>first|exact fun x=>AV.iB.mono cG _ x|exact id,AV.iB.mono cG _ hin.2⟩,d6.refl I,fun{E Q} hq hE=>?_⟩;simp only[bG];exact rg (ρ:=ρ) hd (hq _ _ (f_.eL R rfl))
  ·cases he
 ·rename_i x ho;simp only[ho];split at he
  ·rename_i t v hx;cases he;have hi:=hA x;rw[hx]at hi;refine⟨AM hi,d6.refl I,fun{E Q} hq hE=>?_⟩;simp only[hx,AV.ev,Instr.panic,bG,JN];exact hE _ rfl rfl
  ·cases he
 ·rename_i t s ho;simp only[ho];obtain⟨v,hv,rfl⟩:=jD he;exact(Ho R I hv).next
 ·rename_i t r ho;simp only[ho];obtain⟨v,hv,rfl⟩:=jD he;have:(r.map fun x=>(wv x).ev ρ)=(r.map wv).map (AV.ev ρ):=by cases r<;>rfl
  rw[this];exact(Kb R I hv).next
 ·rename_i t x k ok ho;simp only[ho];obtain⟨v,hv,rfl,rfl⟩:=iT he;exact vT.pure R I (Kc I hv) fun{E Q} hq=>Oo R G hv hq
 ·rename_i t m k x ho;simp only[ho];obtain⟨hv,rfl⟩:=DL he;obtain⟨I',n1,n2⟩:=AK I (hA k) (hA x) hv;refine⟨trivial,d6.zJ I' n1 n2,fun hq _=>?_⟩;simp only[bG,bO];exact Fq R G hv fun w' r1 r2=>hq _ _ ⟨ρ,cz.refl _ _,r1,r2,rfl⟩
 ·cases he
end
end Go.Proofs.Ythaddgfbohmfoaa.SX
namespace Go.Proofs.Ythaddgfbohmfoaa.SX
open Go.Conc
open _root_.List renaming mem_cons_of_mem->am,getElem?_eq_getElem->aF,map_congr_left->aY,getElem?_toArray->bw,getD_eq_getElem?_getD->bA
open _root_.Option renaming map_some->af
open _root_.Nat renaming lt_or_ge->bo,le_trans->bp
open _root_.Bool renaming false_eq_true->aR
open _root_.Array renaming getElem?_setIfInBounds_ne->aC,getElem?_eq_getElem->aT,getD_eq_getD_getElem?->be
def cM(w:World)(d:Nat):World:={w with drawn:=d}
def tZ(Fs:Bool):Mark:=match Fs with
 |true=>.disable
 |false=>.enable
inductive gW(P:Program)(main:Bool)(D:World->World->Array Event->Prop)(S:Goroutine->World->Prop):Nat->Goroutine->World->Prop where
 |stop (g:Goroutine) (w:World):S g w->gW P main D S 0 g w
 |step (n:Nat) (g:Goroutine) (w:World) (g':Nat->Goroutine) (w':Nat->World) (es:Nat->Array Event):g.status=.running->(∀d,stepG P main g (cM w d)=.go (g' d) (w' d) (es d))->
  (∀d,D (cM w d) (w' d) (es d))->(∀d,gW P main D S n (g' d) (w' d))->gW P main D S n g w
 |off (n:Nat) (g:Goroutine) (w:World) (g':Goroutine):g.status=.running->(∀d,stepG P main g (cM w d)=.go g' (cM w d) #[⟨.mark .disable,false,true⟩])->
  (∀d,gW P main D S (n+1) g' (cM w d))->gW P main D S n g w
 |on (n:Nat) (g:Goroutine) (w:World) (g':Goroutine):g.status=.running->(∀d,stepG P main g (cM w d)=.go g' (cM w d) #[⟨.mark .enable,false,true⟩])->
  (∀d,gW P main D S n g' (cM w d))->gW P main D S (n+1) g w
def dy(P:Program)(main:Bool)(D:World->World->Array Event->Prop)(S:Goroutine->World->Prop)(_:Nat)(g:Goroutine)(w:World):Prop:=gW P main D S 0 g w
section
variable {P:Program}{main:Bool}{D:World->World->Array Event->Prop}{S T:Goroutine->World->Prop}
theorem dy.stop{n:Nat}{g:Goroutine}{w:World}(h:S g w):dy P main D S n g w:=gW.stop g w h
theorem DN{s:GStep}{K K':Goroutine->World->Array Event->Prop}(h:s.goes K)(hk:∀g w es,K g w es->K' g w es):s.goes K':=by cases s<;>first|exact hk _ _ _ h|exact h
theorem W7{s:GStep}{K:Goroutine->World->Array Event->Prop}(h:s.goes K):∃g w es,s=.go g w es∧K g w es:=by
 cases s with
 |go g w es=>exact⟨g,w,es,rfl,h⟩
 |_=>exact h.elim
theorem dy.mono{n m:Nat}{g:Goroutine}{w:World}(_:n≤m)(h:dy P main D S n g w):dy P main D S m g w:=h
theorem dy.any{n m:Nat}{g:Goroutine}{w:World}(h:dy P main D S n g w):dy P main D S m g w:=h
theorem gW.trans(hST:∀g w,S g w->gW P main D T 0 g w){n:Nat}{g:Goroutine}{w:World}(h:gW P main D S n g w):gW P main D T n g w:=by
 induction h with
 |stop g w hs=>exact hST g w hs
 |step n g w g' w' es hr hs hd _ ih=>exact gW.step n g w g' w' es hr hs hd fun d=>ih d
 |off n g w g' hr hs _ ih=>exact gW.off n g w g' hr hs fun d=>ih d
 |on n g w g' hr hs _ ih=>exact gW.on n g w g' hr hs fun d=>ih d
theorem dy.trans{n m:Nat}(hST:∀g w,S g w->dy P main D T m g w){g:Goroutine}{w:World}(h:dy P main D S n g w):dy P main D T (n+m) g w:=gW.trans hST h
theorem dy.d_{n:Nat}(hST:∀g w,S g w->T g w){g:Goroutine}{w:World}(h:dy P main D S n g w):dy P main D T n g w:=
 (dy.trans (m:=0) (fun g w hs=>dy.stop (hST g w hs)) h).any
theorem dy.head{n m:Nat}{g:Goroutine}{w:World}(hs:g.status=.running)(h:∀d,(stepG P main g (cM w d)).goes fun g' w' es=>D (cM w d) w' es∧dy P main D S n g' w'):dy P main D S m g w:=by
 have h':∀d,∃g' w' es,stepG P main g (cM w d)=.go g' w' es∧D (cM w d) w' es∧dy P main D S n g' w':=fun d=>W7 (h d);exact gW.step 0 g w (fun d=>(h' d).choose) (fun d=>(h' d).choose_spec.choose) (fun d=>(h' d).choose_spec.choose_spec.choose) hs (fun d=>(h' d).choose_spec.choose_spec.choose_spec.1)
  (fun d=>(h' d).choose_spec.choose_spec.choose_spec.2.1) (fun d=>(h' d).choose_spec.choose_spec.choose_spec.2.2)
theorem dy.one{g:Goroutine}{w:World}(hs:g.status=.running)(h:∀d,(stepG P main g (cM w d)).goes fun g' w' es=>D (cM w d) w' es∧S g' w'):dy P main D S 1 g w:=
 dy.head (n:=0) hs fun d=>DN (h d) fun g' w' es ⟨a,b⟩=>⟨a,dy.stop b⟩
theorem dy.Kg{D':World->World->Array Event->Prop}{n:Nat}(hd:∀w w' es,D w w' es->D' w w' es){g:Goroutine}{w:World}(h:dy P main D S n g w):dy P main D' S n g w:=by
 change gW P main D S 0 g w at h;show gW P main D' S 0 g w;generalize(0:Nat)=k at h⊢
 induction h with
 |stop g w hs=>exact gW.stop g w hs
 |step n g w g' w' es hr hs hdd _ ih=>exact gW.step n g w g' w' es hr hs (fun d=>hd _ _ _ (hdd d)) fun d=>ih d
 |off n g w g' hr hs _ ih=>exact gW.off n g w g' hr hs fun d=>ih d
 |on n g w g' hr hs _ ih=>exact gW.on n g w g' hr hs fun d=>ih d
end
def pD(S:Nat->Nat->Prop)(w w':World):Prop:=∀b n v,S b n->w.cell? ⟨b,n,none⟩=some v->w'.cell? ⟨b,n,none⟩=some v
theorem Ft{α:Type}{P:Program}{Ev:Event->Prop}{E:Value->World->Prop}{S:Nat->Nat->Prop}(hE:∀b n s,S b n->¬Ev ⟨.cell ⟨b,n,none⟩,true,s⟩)(m:Sem α):∀{Q:α->World->Prop} {w:World},wq P Ev E m Q w->
  wq P Ev E m (fun x w'=>Q x w'∧pD S w w') w:=by
 have cH:∀{w w1:World},pD S w w1->∀{m:Sem α} {Q:α->World->Prop},wq P Ev E m (fun x w'=>Q x w'∧pD S w1 w') w1->wq P Ev E m (fun x w'=>Q x w'∧pD S w w') w1:=by intro w w1 hs m Q h;exact WQ (fun _ _ x=>x) (fun x w' ⟨a,b⟩=>⟨a,fun b' n v x y=>b b' n v x (hs b' n v x y)⟩) h
 induction m with
 |pure a=>intro Q w h;exact⟨h,fun _ _ _ _ x=>x⟩
 |load m a k ih=>intro Q w h;obtain⟨v,h1,h2,h3⟩:=h;exact⟨v,h1,h2,ih v h3⟩
 |store m a v k ih=>
  intro Q w h;obtain⟨h1,h2,h3,h4,h5⟩:=h;refine⟨h1,h2,h3,h4,cH ?_ (ih h5)⟩;intro b n u hs hc;simp only[World.cell?]at hc⊢;rw[d5];by_cases e:b=a.block
  ·rw[if_pos e];cases ho:w.heap[b]? with
   |none=>rw[ho]at hc;cases hc
   |some o=>
    rw[ho]at hc;cases o with
    |cells c elem fr=>
     simp only[af];simp only[Option.isSome_none,aR,if_false]at hc⊢;by_cases hsp:a.spot.isSome=true
     ·rw[if_pos hsp];exact hc
     ·rw[if_neg hsp];by_cases en:a.off=n
      ·exfalso;have:a=⟨b,n,none⟩:=by
        obtain⟨ab,ao,asp⟩:=a;simp only[Option.not_isSome_iff_eq_none]at hsp
        simp_all
       exact hE b n _ hs (this▸h4)
      ·rw[aC en];exact hc
    |_=>cases hc
  ·rw[if_neg e];exact hc
 |new o k ih=>
  intro Q w h;refine(cH ?_ (ih _ h):wq P Ev E (k w.heap.size) _ _);intro b n u hs hc;simp only[World.cell?]at hc⊢;have dU:b<w.heap.size:=by
   rcases bo b w.heap.size with h'|h'
   ·exact h'
   ·rw[Array.getElem?_eq_none h']at hc;cases hc
  rw[Array.getElem?_push_lt dU];rw[aT dU]at hc;exact hc
 |shape r k ih=>intro Q w h;exact ih _ h
 |freeze a n k ih=>intro Q w h;exact h.elim
 |frozen a k ih=>intro Q w h;exact ih _ h
 |getObj r k ih=>intro Q w h;obtain⟨o,h1,h2,h3,h4⟩:=h;exact⟨o,h1,h2,h3,ih o h4⟩
 |setObj r o k ih=>
  intro Q w h;obtain⟨⟨o',h1,h2⟩,h3,h4⟩:=h;refine⟨⟨o',h1,h2⟩,h3,cH ?_ (ih h4)⟩;intro b n u hs hc;simp only[World.cell?]at hc⊢;by_cases e:r=b
  ·subst e;rw[h1]at hc;cases o' with
   |cells c el fr=>exact absurd rfl (h2 _ _ _)
   |_=>cases hc
  ·rw[aC e];exact hc
 |choose q k ih=>
  intro Q w h;simp only[wq]at h⊢;split
  ·rename_i hf;rw[if_pos hf]at h;exact ih 0 h
  ·rename_i hf;rw[if_neg hf]at h;exact fun n=>cH (fun _ _ _ _ x=>x) (ih _ (h n))
 |sys c k ih=>intro Q w h;exact h.elim
 |program k ih=>intro Q w h;exact ih P h
 |mark m k ih=>intro Q w h;exact⟨h.1,ih h.2⟩
 |halt x=>intro Q w h;cases x<;>exact h
def DK(K:ik)(w w':World)(es:Array Event):Prop:=cE K.own w w'∧(∀e∈es,K.Ev e)∧pD K.still w w'
structure pV(ρ:cn)(nt:Nat)(t:TT)(tmps:Array Value):Prop where
 size:tmps.size=nt
 le:nt≤60000
 get:∀n,n<nt->tmps[n]?=some ((t.get n).ev ρ)
 out:∀n,nt≤n->t.get n=cx
def ia.ev(ρ:cn):ia->FrameMode
 |.run=>.run
 |.returning=>.returning
 |.panicking chain=>.panicking (chain.map fun x=>{v:=x.1.ev ρ,recovered:=x.2})
def iD(fn:FuncId)(kind:CallKind):Frame:={(default:Frame)with fn:=fn,kind:=kind}
def bB(ρ:cn)(fn:FuncId)(kind:CallKind):Frame:=
 match kind with
 |.wrapped=>{iD fn .normal with roundOf:=ρ.bt.1}
 |k=>iD fn k
def dB(ρ:cn)(kind:CallKind)(ds:List Deferred):List Deferred:=
 match kind with
 |.wrapped=>ds++ρ.bt.2
 |_=>ds
def aB(ρ:cn)(kind:CallKind)(tm:Array Value)(ds:List AD):Act:=⟨tm,dB ρ kind (ds.map (AD.ev ρ))⟩
def ic(k:CallKind):Prop:=k=.normal∨k=.deferred
theorem qA{k:CallKind}(h:ic k∨k=.wrapped)(ht:gI k=false):ic k:=by
 rcases h with h|rfl
 ·exact h
 ·cases ht
theorem sR{k:CallKind}(h:ic k)(ρ:cn)(fn:FuncId):bB ρ fn k=iD fn k:=by rcases h with rfl|rfl<;>rfl
theorem AO{k:CallKind}(h:ic k)(ρ:cn)(ds:List Deferred):dB ρ k ds=ds:=by rcases h with rfl|rfl<;>rfl
theorem RS{k:CallKind}(h:ic k)(ρ:cn)(tm:Array Value)(ds:List AD):aB ρ k tm ds=⟨tm,ds.map (AD.ev ρ)⟩:=by unfold aB;rw[AO h]
theorem lh{k:CallKind}(h:ic k)(ρ:cn)(fn:FuncId)(tm:Array Value)(ds:List AD)(todo:List Item):(bB ρ fn k).atR (aB ρ k tm ds) todo=(iD fn k).at ⟨tm,ds.map (AD.ev ρ)⟩ todo:=by rw[sR h,RS h];rfl
theorem sS{k:CallKind}(h:ic k)(ρ:cn)(fn:FuncId):(bB ρ fn k).roundOf=none:=by rw[sR h];rfl
theorem W8{k:CallKind}(h:ic k∨k=.wrapped)(ρ:cn)(fn:FuncId):(bB ρ fn k).kind≠.early:=by rcases h with(rfl|rfl)|rfl<;>simp[bB,iD]
theorem abn(ρ:cn)(fn:FuncId)(k:CallKind):(bB ρ fn k).fn=fn:=by cases k<;>rfl
theorem MC(ρ:cn)(k:CallKind)(d:Deferred)(ds:List Deferred):dB ρ k (d::ds)=d::dB ρ k ds:=by cases k<;>rfl
def dS(ρ:cn)(fr:bH)(tmps:Array Value)(todo:List Item):Frame:={(bB ρ fr.fn fr.kind).atR (aB ρ fr.kind tmps fr.defers) todo with mode:=fr.mode.ev ρ}
structure adb(P:Program)(ρ:cn)(fr:bH)(tmps:Array Value)(todo:List Item):Prop where
 tmps:pV ρ fr.nt fr.tmps tmps
 kind:ic fr.kind∨fr.kind=.wrapped
 todo:fr.mode=.run->todo=fr.todo
 fn:∃fn,P.funcs[fr.fn]?=some fn
def dj(P:Program)(ρ:cn)(fr:bH)(g:Frame):Prop:=∃tmps todo,adb P ρ fr tmps todo∧g=dS ρ fr tmps todo
def c8(P:Program)(ρ:cn):List bH->List Frame->Prop
 |[],[]=>True
 |a::l,b::m=>dj P ρ a b∧c8 P ρ l m
 |_,_=>False
def rh(K:ik)(ρ:cn)(c:dw)(cs:List Frame)(g:Goroutine)(w:World):Prop:=
 Rel K ρ c.h w∧∃fr cC,dj K.P ρ c.da fr∧c8 K.P ρ c.callers cC∧g=G fr (cC++cs)
def ia.In(U:Nat->Prop):ia->Prop
 |.panicking chain=>∀x∈chain,x.1.In U
 |_=>True
structure bH.In(U:Nat->Prop)(fr:bH):Prop where
 tmps:fr.tmps.In U
 defers:∀d∈fr.defers,d.In U
 mode:fr.mode.In U
structure gq(K:ik)(U:Nat->Prop)(c:dw):Prop where
 da:c.da.In U
 callers:∀fr∈c.callers,fr.In U
 iC:h_ K U c.h
theorem iy.In.mono{U U':Nat->Prop}(hs:∀n,U n->U' n){t:iy}(h:t.In U):t.In U':=by
 cases t with
 |fn f c=>exact AV.iB.mono hs _ h
 |builtin b a t c=>trivial
theorem AD.In.mono{U U':Nat->Prop}(hs:∀n,U n->U' n){d:AD}(h:d.In U):d.In U':=⟨iy.In.mono hs h.1,AV.iB.mono hs _ h.2⟩
theorem ia.In.mono{U U':Nat->Prop}(hs:∀n,U n->U' n){m:ia}(h:m.In U):m.In U':=by
 cases m with
 |panicking chain=>exact fun x hx=>AV.In.mono hs _ (h x hx)
 |_=>trivial
theorem bH.In.mono{U U':Nat->Prop}(hs:∀n,U n->U' n){fr:bH}(h:fr.In U):fr.In U':=
 ⟨TT.In.mono hs h.tmps,fun d hd=>AD.In.mono hs (h.defers d hd),ia.In.mono hs h.mode⟩
section
variable {U:Nat->Prop}{ρ bL:cn}
theorem AD.cu(A:cz U ρ bL){d:AD}(h:d.In U):d.ev bL=d.ev ρ:=by
 obtain⟨t,a⟩:=d;simp only[AD.ev];rw[AV.f8 A _ h.2];cases t with
 |fn f c=>simp only[iy.ev];rw[AV.f8 A _ h.1]
 |builtin b a t c=>rfl
theorem ia.cu(A:cz U ρ bL){m:ia}(h:m.In U):m.ev bL=m.ev ρ:=by
 cases m with
 |panicking chain=>simp only[ia.ev];congr 1;exact aY fun x hx=>by rw[AV.cu A _ (h x hx)]
 |_=>rfl
theorem ww(A:cz U ρ bL)(fn:FuncId)(k:CallKind):bB bL fn k=bB ρ fn k:=by unfold bB;rw[A.bt]
theorem wz(A:cz U ρ bL)(k:CallKind)(tm:Array Value){ds:List AD}(h:∀d∈ds,d.In U):aB bL k tm ds=aB ρ k tm ds:=by have:ds.map (AD.ev bL)=ds.map (AD.ev ρ):=aY fun d hd=>AD.cu A (h d hd);unfold aB dB;rw[this,A.bt]
theorem pV.bE(A:cz U ρ bL){nt:Nat}{t:TT}{tmps:Array Value}(h:pV ρ nt t tmps)(hi:t.In U):pV bL nt t tmps:=
 ⟨h.size,h.le,fun n hn=>by rw[h.get n hn,AV.cu A _ (hi n)],h.out⟩
theorem C7(A:cz U ρ bL){fr:bH}(hi:fr.In U)(tmps:Array Value)(todo:List Item):dS bL fr tmps todo=dS ρ fr tmps todo:=by unfold dS;rw[ia.cu A hi.mode,wz A fr.kind tmps hi.defers,ww A]
theorem dj.bE{P:Program}(A:cz U ρ bL){fr:bH}{g:Frame}(h:dj P ρ fr g)(hi:fr.In U):dj P bL fr g:=by obtain⟨tmps,todo,h1,h3⟩:=h;exact⟨tmps,todo,⟨h1.tmps.bE A hi.tmps,h1.kind,h1.todo,h1.fn⟩,by rw[h3,C7 A hi]⟩
theorem iH{P:Program}(A:cz U ρ bL):∀{l:List bH} {cC:List Frame},c8 P ρ l cC->(∀fr∈l,fr.In U)->c8 P bL l cC
 |[],[],_,_=>trivial
 |_::_,_::_,h,hi=>⟨h.1.bE A (hi _ (by simp)),iH A h.2 fun fr hf=>hi fr (am _ hf)⟩
end
section
variable {ρ:cn}{nt:Nat}{t:TT}{tmps:Array Value}{U:Nat->Prop}
theorem pV.getD(h:pV ρ nt t tmps)(n:Nat):tmps.getD n undef=(t.get n).ev ρ:=by
 rw[be];rcases bo n nt with hn|hn
 ·rw[h.get n hn];rfl
 ·rw[h.out n hn,Array.getElem?_eq_none (by rw[h.size];exact hn)];rfl
theorem jh(h:pV ρ nt t tmps)(ds:List Deferred)(x:Operand):Act.eval ⟨tmps,ds⟩ x=(fC t x).ev ρ:=by
 cases x with
 |tmp n=>exact h.getD n
 |const v=>exact(ox ρ v).symm
 |global g=>rfl
 |func f=>rfl
theorem sT(h:t.In U)(x:Operand):(fC t x).In U:=by
 cases x with
 |tmp n=>exact h n
 |const v=>exact oy v
 |global g=>exact⟨trivial,trivial⟩
 |func f=>exact⟨trivial,trivial⟩
theorem sU(h:pV ρ nt t tmps)(ds:List Deferred)(dst:Option Tmp)(v:AV):∃DO,(Act.put ⟨tmps,ds⟩ dst (v.ev ρ))=⟨DO,ds⟩∧pV ρ nt (jQ nt t dst v) DO:=by
 cases dst with
 |none=>exact⟨tmps,rfl,h⟩
 |some d=>
  refine⟨tmps.setIfInBounds d (v.ev ρ),rfl,?_⟩;unfold jQ;dsimp only;cases hb:Nat.ble (d+1) nt with
  |true=>
   have hd:Nat.succ d≤nt:=Nat.le_of_ble_eq_true hb;have Ov:Nat.succ d<2 ^ 16:=Nat.lt_of_le_of_lt (bp hd h.le) (by decide);refine⟨by simpa using h.size,h.le,fun n hn=>?_,fun n hn=>?_⟩
   ·dsimp only at hn⊢;rw[TT.v6 v 16 t d n Ov];by_cases e:n=d
    ·subst e;rw[if_pos rfl];simp[h.size,hn]
    ·rw[if_neg e,aC (fun x=>e x.symm)];exact h.get n hn
   ·dsimp only;rw[TT.v6 v 16 t d n Ov,if_neg (show ¬n=d from fun e=>by subst e;exact Nat.lt_irrefl _ (Nat.lt_of_lt_of_le hd hn))];exact h.out n hn
  |false=>
   have hd:nt≤d:=Nat.le_of_not_lt fun dU=>by have:=Nat.ble_eq_true_of_le dU;have h2:Nat.ble (d+1) nt=true:=this;rw[h2]at hb;cases hb
   have:tmps.setIfInBounds d (v.ev ρ)=tmps:=Array.setIfInBounds_eq_of_size_le (by rw[h.size];exact hd);rw[this];exact h
theorem wA{dst:Option Tmp}{v:AV}(h:t.In U)(hv:v.In U)(rW:nt≤60000):(jQ nt t dst v).In U:=by
 cases dst with
 |none=>exact h
 |some d=>
  unfold jQ;dsimp only;cases hb:Nat.ble (d+1) nt with
  |true=>
   have hd:Nat.succ d≤nt:=Nat.le_of_ble_eq_true hb;have Ov:Nat.succ d<2 ^ 16:=Nat.lt_of_le_of_lt (bp hd rW) (by decide);intro n;dsimp only;rw[TT.v6 v 16 t d n Ov];split
   ·exact hv
   ·exact h n
  |false=>exact h
theorem AP{K:ik}{h:AH}{w:World}(R:Rel K ρ h w)(T:pV ρ nt t tmps){ops:Array Oper}{o:Oper}{b:Bool}(he:i9 K.O ops t o=.ok b):Region.wanted o (yielded ops tmps)=b:=by
 unfold i9 at he;unfold Region.wanted;split at he
 ·rename_i hg;rw[hg];cases he;rfl
 ·rename_i j want hg;rw[hg];split at he
  ·rename_i y hy;cases he;have:yielded ops tmps j=y:=by
    unfold sC at hy;unfold yielded;split at hy
    ·cases hy
    ·rename_i d hd;rw[hd];simp only[Option.bind_some];rcases bo d nt with dU|qB
     ·rw[T.get d dU];split at hy
      ·rename_i b' qj;split at hy
       ·rename_i b2 Fj;cases hy;rw[qj];simp only[AV.ev,oA R Fj]
       ·cases hy
      ·rename_i vs Mr;cases hy;rw[Mr];rfl
      ·cases hy
     ·rw[Array.getElem?_eq_none (by rw[T.size];exact qB)];rw[T.out d qB]at hy;simp only[cx]at hy;cases hy;rfl
   show(yielded ops tmps j==some want)=_;rw[this]
  ·cases he
theorem W9:∀{l:List AV} {n:Nat} {t:TT},n+l.length≤60000->AV.iB U l->t.In U->(TT.fill l n t).In U:=by
 intro l n t hle hl ht m;rw[TT.v7 l n t m hle];split
 ·rename_i hm;have:m-n<l.length:=by omega
  rw[bA,aF this];exact dg.1 hl _ (List.getElem_mem this)
 ·exact ht m
end
theorem jW{P:Program}{ρ:cn}{U:Nat->Prop}{f:FuncId}{args:List AV}{kind:CallKind}{fr:bH}(he:fD P f args kind=.ok fr)(hk:kind=.normal∨kind=.deferred)(ha:AV.iB U args):
  dj P ρ fr (Frame.enter P f (AV.cf ρ args).toArray kind)∧fr.In U∧fr.kind=kind∧fr.fn=f∧∃fn,P.funcs[f]?=some fn:=by
 unfold fD at he;split at he
 ·rename_i fn hf;split at he
  ·rename_i c hc;split at he
   ·rename_i dI;cases he;refine⟨⟨(AV.cf ρ args).toArray++Array.replicate (fn.ntmps-args.length) undef,[.code c],⟨?_,.inl hk,fun _=>rfl,fn,hf⟩,?_⟩,⟨?_,by simp,trivial⟩,rfl,rfl,fn,hf⟩
    ·have hl:(AV.cf ρ args).length=args.length:=dt ρ args;refine⟨by simp[hl];omega,dI.2,fun n hn=>?_,fun n hn=>?_⟩
     ·dsimp only at hn⊢;rw[TT.v7 args 0 .ju n (by omega)];by_cases dU:n<args.length
      ·rw[if_pos ⟨Nat.zero_le _,by omega⟩,Array.getElem?_append_left (by simp[hl];exact dU)];rw[bw,pq];simp[bA,aF dU]
      ·rw[if_neg (by omega),Array.getElem?_append_right (by simp[hl];omega)];rw[Array.getElem?_replicate,if_pos (by simp[hl];omega)];rfl
     ·dsimp only at hn⊢;rw[TT.v7 args 0 .ju n (by omega),if_neg (by omega)];rfl
    ·unfold dS Frame.enter;dsimp only;rw[lh hk];simp[iD,Frame.at,ia.ev,hf,hc,dt]
    ·exact W9 (by omega) ha (fun _=>trivial)
   ·cases he
  ·cases he
 ·cases he
end Go.Proofs.Ythaddgfbohmfoaa.SX
