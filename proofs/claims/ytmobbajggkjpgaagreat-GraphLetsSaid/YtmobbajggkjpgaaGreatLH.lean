/-
  A symbolic run of the model, proved sound, and the walk of the code: a text of its parts. Conditions: none.
-/
import Derived.Test.YtmobbajggkjpgaaGreatLG
set_option linter.unusedSectionVars false
set_option maxRecDepth 100000
set_option linter.unusedVariables false
set_option linter.unusedSimpArgs false
namespace Go.Proofs.YtmobbajggkjpgaaGreat
open Go.Proofs.YtmobbajggkjpgaaGreat.SX Go.Conc
open _root_.List renaming mem_cons_of_mem->aa,getElem?_eq_getElem->af,mem_singleton->ah,mem_cons_self->ai,mem_cons->aj,length_append->ak,getElem?_eq_some_iff->aq,mem_of_getElem?->ay,not_mem_nil->az,length_cons->aC,length_map->aE,map_cons->aK,getElem?_map->aL,getElem?_eq_none->aM,length->aP,append_nil->aQ,mem_append->aR,drop_of_length_le->aS,drop_eq_nil_iff->aU,getElem?_append_left->aV,append_assoc->aY,length_nil->aZ,length_eq_zero_iff->bk,length_drop->br
open _root_.Bool renaming and_eq_true->an
open _root_.Option.some renaming inj->au
open _root_.Option renaming map_some->av,map_none->aI
open _root_.Nat renaming le_refl->ax,le_trans->aA,zero_add->aG
open _root_.Int renaming toNat_natCast->bx
noncomputable def qt(l:Nat):Code:=pc (bD Tryz.f32) (pd l)
theorem Sw:bP Tryz.prog 32 [.bC 0,.bC 1] .normal=.ok ⟨32,27,c8 32 [.bC 0,.bC 1],[.code (bD Tryz.f32)],[],.run,.normal⟩:=by kernel_rfl
theorem Sx:dP 32 27 4:=fun st=>by kernel_rfl
noncomputable abbrev CB:List Item:=[.code (qt 116),.inLoop (qt 116),.inBlock 0,.code (qt 15)]
theorem aeQ(z y:Bool):Pc 32 27 [.code (bD Tryz.f32)] ([(0,cG z 50 53 51 52),(1,cG y 60 63 61 62)]) [((.cmp .neq (dL z 51) (dL y 61)),false)] [] [] 22 [] [0,1,5] CB [cG z 50 53 51 52,cG y 60 63 61 62,i64 (.lit 0)] []:=by cases z<;>cases y<;>exact{}
abbrev kz3:List (BE×Bool):=[((.cmp .lss (v 10) (.tn (v 51))),true),((.cmp .leq (.lit 0) (v 10)),true),((.cmp .lss (v 10) (.lit 0)),false),((.cmp .geq (v 10) (.tn (v 51))),false),((.cmp .lss (v 10) (.tn (v 61))),true),((.cmp .leq (.lit 0) (v 10)),true),((.cmp .lss (v 10) (.lit 0)),false),((.cmp .geq (v 10) (.tn (v 61))),false)]
noncomputable abbrev Zo:List (AA×AV):=[(eB 50 53 10 3,ss 1),(eA 50 53 10 3 1,.bC 7),(eA 50 53 10 3 2,i64 (v 4)),(eB 60 63 10 3,ss 1),(eA 60 63 10 3 1,.bC 17),(eA 60 63 10 3 2,i64 (v 4))]
theorem aeR:Pc 32 27 CB ([(0,sA 50 53 51 52),(1,sA 60 63 61 62),(5,i64 (v 10))]) kz3 Zo [] 13 [] [0,1,5] [.code (qt 1864),.code (qt 1865),.inBlock 1,.code (qt 467),.inLoop (qt 116),.inBlock 0,.code (qt 15)] [sA 50 53 51 52,sA 60 63 61 62,i64 (v 10)] []:={}
theorem aeS:Pc 32 27 [.inRegion (opsOf (qt 1864)) [],.code (qt 1865),.inBlock 1,.code (qt 467),.inLoop (qt 116),.inBlock 0,.code (qt 15)] ([(0,.bC 0),(1,.bC 1),(5,i64 (v 10)),(26,FB)]) [] [] [] 10 [] [0,1,5] CB [.bC 0,.bC 1,i64 (.op .add .i64 (v 10) (.lit 1))] []:={}
theorem aeT(z y:Bool):Pc 32 27 CB ([(0,cG z 50 53 51 52),(1,cG y 60 63 61 62),(5,i64 (v 10))]) [((.cmp .lss (v 10) (dL z 51)),false)] [] [] 14 [] [4] [.code .ret] [TB] []:=by cases z<;>cases y<;>exact{}
noncomputable abbrev tv:Array Oper:=opsOf (qt 1864)
theorem cT{α:Type}{lv:List α}{a:α}(h:a∈lv):∀q∈[a],q∈lv:=List.forall_mem_singleton.2 h
theorem kX{α:Type}{lv:List α}{a b:α}(h:a∈lv)(h2:b∈lv):∀q∈[a,b],q∈lv:=List.forall_mem_cons.2 ⟨h,cT h2⟩
theorem Zp{α:Type}{lv:List α}{a b c:α}(h:a∈lv)(h2:b∈lv)(h3:c∈lv):∀q∈[a,b,c],q∈lv:=List.forall_mem_cons.2 ⟨h,kX h2 h3⟩
theorem Zq:dD 27 tv 0 [] [] [(0,sA 50 53 51 52)] (sA 50 53 51 52) 17:={}
theorem Zr:dD 27 tv 1 [] [] [(5,i64 (v 10))] (i64 (v 10)) 18:={}
abbrev OM:List (BE×Bool):=[((.cmp .lss (v 10) (.tn (v 51))),true),((.cmp .leq (.lit 0) (v 10)),true)]
theorem Zs:dD 27 tv 2 OM [] [(17,sA 50 53 51 52),(18,i64 (v 10))] (.ptr (some (eB 50 53 10 3))) 19:={}
theorem Zt:dD 27 tv 3 [] [(eB 50 53 10 3,ss 1),(eA 50 53 10 3 1,.bC 7),(eA 50 53 10 3 2,i64 (v 4))] [(19,.ptr (some (eB 50 53 10 3)))] (.agg [ss 1,.bC 7,i64 (v 4)]) 20:={}
theorem Zu:dD 27 tv 4 [] [] [(1,sA 60 63 61 62)] (sA 60 63 61 62) 21:={}
theorem Zv:dD 27 tv 5 [] [] [(5,i64 (v 10))] (i64 (v 10)) 22:={}
theorem Zw:dD 27 tv 6 [((.cmp .lss (v 10) (.tn (v 61))),true),((.cmp .leq (.lit 0) (v 10)),true)] [] [(21,sA 60 63 61 62),(22,i64 (v 10))] (.ptr (some (eB 60 63 10 3))) 23:={}
theorem Zx:dD 27 tv 7 [] [(eB 60 63 10 3,ss 1),(eA 60 63 10 3 1,.bC 17),(eA 60 63 10 3 2,i64 (v 4))] [(23,.ptr (some (eB 60 63 10 3)))] (.agg [ss 1,.bC 17,i64 (v 4)]) 24:={}
theorem Zy:di 27 tv 8 [(20,.agg [ss 1,.bC 7,i64 (v 4)]),(24,.agg [ss 1,.bC 17,i64 (v 4)])] 56 [.agg [ss 1,.bC 7,i64 (v 4)],.agg [ss 1,.bC 17,i64 (v 4)]] 25:={}
theorem Zz:dD 27 tv 9 [] [] [(25,TB)] (FB) 26:={}
def ON(i:Nat):Nat:=match i with
 |0=>17|1=>18|2=>19|3=>20|4=>21|5=>22|6=>23|7=>24|8=>25|_=>26
noncomputable abbrev IU:List (Nat×AV):=[(0,sA 50 53 51 52),(1,sA 60 63 61 62),(5,i64 (v 10))]
noncomputable abbrev Sy:List (AA×AV):=Zo
noncomputable abbrev ZA:List (BE×Bool):=kz3
noncomputable def EJ(ρ:Env)(i:Nat)(u:Value)(w:World):Prop:=match i with
 |0=>u=(sA 50 53 51 52:AV).ev ρ
 |1=>u=(i64 (v 10):AV).ev ρ
 |2=>u=(.ptr (some (eB 50 53 10 3)):AV).ev ρ
 |3=>u=(.agg [ss 1,.bC 7,i64 (v 4)]:AV).ev ρ
 |4=>u=(sA 60 63 61 62:AV).ev ρ
 |5=>u=(i64 (v 10):AV).ev ρ
 |6=>u=(.ptr (some (eB 60 63 10 3)):AV).ev ρ
 |7=>u=(.agg [ss 1,.bC 17,i64 (v 4)]:AV).ev ρ
 |8=>u=(TB:AV).ev ρ
 |_=>u=(FB:AV).ev ρ
theorem IV{ρ:Env}(i:Nat)(u:Value)(w w':World)(h:EJ ρ i u w)(f:bA w w'):EJ ρ i u w':=by
 unfold EJ at h⊢;split at h
 all_goals first|exact h
section
variable {w w0:World}{cs:List Frame}{fr:Frame}
theorem Mi{ρ:Env}{x:cH}{k:List Item}(pa:cP w0 (ρ.v 7) x.tree)(pb:ig w0 (ρ.v 17) x.tree)(pn:x.tree.length≤4294967000)(pe:ρ.s 1=x.name)(pf:ρ.i 4=x.bY)(iA:cr ρ ZA)(hmem:cw ρ w0 Sy):
  ∀i,i<10->(true)=true->∀(l:List Nat) (w:World) (fr:Frame) (lv:List (Nat×Value)),bA w0 w->FA 32 27 (.inRegion tv (i::l)::k) [] .normal lv fr->(∀x∈told ρ IU,x∈lv)->(∀p∈ja tv i,∃v,(ON p,v)∈lv∧EJ ρ p v w)->
   Goes (G fr cs) w fun g' w'=>∃fr' v,g'=G fr' cs∧bA w w'∧EJ ρ i v w'∧FA 32 27 (.inRegion tv l::k) [] .normal (fL (ON i) v lv) fr':=by
 intro i hi he l w fr lv f hf hb hp;have bm:∀{j:Nat} {q:Nat×Value},(told ρ IU)[j]?=some q->q∈lv:=fun h=>hb _ (ay h);rcases(by omega:i=0∨i=1∨i=2∨i=3∨i=4∨i=5∨i=6∨i=7∨i=8∨i=9)with rfl|rfl|rfl|rfl|rfl|rfl|rfl|rfl|rfl|rfl
 ·exact Zq.dc ρ hf (by decide) (cT (bm (j:=0) rfl)) trivial trivial rfl
 ·exact Zr.dc ρ hf (by decide) (cT (bm (j:=2) rfl)) trivial trivial rfl
 ·obtain⟨v0,q0,e0⟩:=hp 0 (dy (by kernel_rfl));have e0:v0=(sA 50 53 51 52:AV).ev ρ:=e0;subst e0;obtain⟨v1,q1,e1⟩:=hp 1 (dy (by kernel_rfl));have e1:v1=(i64 (v 10):AV).ev ρ:=e1;subst e1;exact Zs.dc ρ hf (by decide) (kX q0 q1) ⟨iA.1,iA.2.2.2.2.2.1,trivial⟩ trivial rfl
 ·obtain⟨v2,q2,e2⟩:=hp 2 (dy (by kernel_rfl));have e2:v2=(.ptr (some (eB 50 53 10 3)):AV).ev ρ:=e2;subst e2;exact Zt.dc ρ hf (by decide) (cT q2) trivial ⟨f.cell hmem.1,f.cell hmem.2.1,f.cell hmem.2.2.1,trivial⟩ rfl
 ·exact Zu.dc ρ hf (by decide) (cT (bm (j:=1) rfl)) trivial trivial rfl
 ·exact Zv.dc ρ hf (by decide) (cT (bm (j:=2) rfl)) trivial trivial rfl
 ·obtain⟨v4,q4,e4⟩:=hp 4 (dy (by kernel_rfl));have e4:v4=(sA 60 63 61 62:AV).ev ρ:=e4;subst e4;obtain⟨v5,q5,e5⟩:=hp 5 (dy (by kernel_rfl));have e5:v5=(i64 (v 10):AV).ev ρ:=e5;subst e5;exact Zw.dc ρ hf (by decide) (kX q4 q5) ⟨iA.2.2.2.2.1,iA.2.2.2.2.2.1,trivial⟩ trivial rfl
 ·obtain⟨v6,q6,e6⟩:=hp 6 (dy (by kernel_rfl));have e6:v6=(.ptr (some (eB 60 63 10 3)):AV).ev ρ:=e6;subst e6;exact Zx.dc ρ hf (by decide) (cT q6) trivial ⟨f.cell hmem.2.2.2.1,f.cell hmem.2.2.2.2.1,f.cell hmem.2.2.2.2.2.1,trivial⟩ rfl
 ·obtain⟨v3,q3,e3⟩:=hp 3 (dy (by kernel_rfl));have e3:v3=(.agg [ss 1,.bC 7,i64 (v 4)]:AV).ev ρ:=e3;subst e3;obtain⟨v7,q7,e7⟩:=hp 7 (dy (by kernel_rfl));have e7:v7=(.agg [ss 1,.bC 17,i64 (v 4)]:AV).ev ρ:=e7;subst e7;exact Zy.dc ρ (Q:=fun v w'=>v=(TB:AV).ev ρ) hf (kX q3 q7) (fun w' f1=>by show dS 56 #[.agg #[.string (ρ.s 1),ρ.v 7,iV (ρ.i 4)],.agg #[.string (ρ.s 1),ρ.v 17,iV (ρ.i 4)]] w' _;rw[pe,pf];exact IT (pa.keep (f.trans f1)) (pb.keep (f.trans f1)) pn)
 ·obtain⟨v8,q8,e8⟩:=hp 8 (dy (by kernel_rfl));have e8:v8=(TB:AV).ev ρ:=e8;subst e8;exact Zz.dc ρ hf (by decide) (cT q8) trivial trivial rfl
theorem OP{ρ:Env}{x:cH}{k:List Item}{lv:List (Nat×Value)}(pa:cP w (ρ.v 7) x.tree)(pb:ig w (ρ.v 17) x.tree)(pn:x.tree.length≤4294967000)(pe:ρ.s 1=x.name)(pf:ρ.i 4=x.bY)(iA:cr ρ ZA)(hmem:cw ρ w Sy)(hl:fT lv (told ρ IU))(hf:FA 32 27 (.code (qt 1864)::k) [] .normal lv fr):
  Goes (G fr cs) w fun g' w'=>∃fr' i_,g'=G fr' cs∧bA w w'∧FA 32 27 (.inRegion tv []::k) [] .normal i_ fr'∧(∀x∈told ρ IU,x∈i_)∧∀i,i<10->(true)=true->∃v,(ON i,v)∈i_∧EJ ρ i v w':=by
 obtain⟨id,hid⟩:=gI (c:=qt 1864) (by kernel_rfl);have hf:=hf.only hl;rw[hid]at hf;refine(gH hf).trans fun g1 w1 hd=>?_;obtain⟨ls,bT,rfl,f1,hs,F1⟩:=hd;refine(ij (b:=told ρ IU) (nm:=ON) (val:=EJ ρ) (early:=fun _=>true) (late:=[]) (n:=10) (w0:=w) (by kernel_rfl) (by kernel_rfl) (by kernel_rfl) (by kernel_rfl) (by kernel_rfl) (by kernel_rfl) (by kernel_rfl) List.Pairwise.nil IV (Mi pa pb pn pe pf iA hmem) ls [] f1 (fun i hi=>by cases hi) hs ⟨_,F1,fun x hx=>hx,fun i hi=>by cases hi⟩).mono fun g2 w2 bX=>?_;obtain⟨cB,lv,h1,h2,h3,h4,h5⟩:=bX;exact⟨cB,lv,h1,h2,h3,h4,h5⟩
end
noncomputable abbrev QsH:List Item:=CB
section
variable {w w0:World}{cs:List Frame}
theorem GG{z y:Bool}{A o c A' o' c':Nat}{l:List cH}(hz:z=true->l=[])(hy:y=true->l=[])(cL:∀i x,l[i]?=some x->pQ w0 A (o+i*3) x)(jE:∀i x,l[i]?=some x->pS w0 A' (o'+i*3) x)(hlen:l.length≤4294967000)(ji:∀x∈l,x.tree.length≤4294967000):
  ∀(k i:Nat) {w:World} {fr:Frame},i+k=l.length->bA w0 w->FA 32 27 QsH [] .normal [(0,ew z A o l.length c),(1,ew y A' o' l.length c'),(5,iV i)] fr->
  Goes (G fr cs) w fun g' w'=>∃fr',g'=G fr' cs∧bA w0 w'∧cV 32 fr' w' (.bool true)
 |0,i,w,fr,hi,fw,hf=>by
  obtain⟨ρ,hρ⟩:∃ρ:Env,ρ=bL [(51,l.length),(52,c),(53,o),(61,l.length),(62,c'),(63,o'),(10,i)] [(50,A),(60,A')] []:=⟨_,rfl⟩;refine((aeT z y).go ρ hf (by rw[hρ];cases z<;>cases y<;>rfl) ⟨by
    rw[hρ];cases z with
    |false=>exact decide_eq_false (by show ¬((i:Int)<((l.length:Nat):Int));omega)
    |true=>exact decide_eq_false (by show ¬((i:Int)<0);omega),trivial⟩ trivial).trans fun g1 w1 hd=>?_
  obtain⟨I,B,bT,rfl,f1,F1,_⟩:=hd;refine(leave1 Sx F1 rfl).mono fun g6 w6 dj=>?_;obtain⟨dJ,rfl,rfl,hL⟩:=dj;exact⟨dJ,rfl,fw.trans f1,hL⟩
 |k+1,i,w,fr,hi,fw,hf=>by
  have hlt:i<l.length:=by omega
  obtain⟨x,hx⟩:∃x,l[i]?=some x:=⟨_,af hlt⟩;cases z with
  |true=>rw[hz rfl]at hlt;simp at hlt
  |false=>
  cases y with
  |true=>rw[hy rfl]at hlt;simp at hlt
  |false=>
  obtain⟨ts,a0,a1,a2,aN⟩:=(cL i x hx).ex;obtain⟨ts',b0,b1,b2,bN⟩:=(jE i x hx).ex;obtain⟨ρ,hρ⟩:∃ρ:Env,ρ=Go.Proofs.YtmobbajggkjpgaaGreat.SX.jn [(51,l.length),(52,c),(53,o),(61,l.length),(62,c'),(63,o'),(10,i),(4,x.bY)] [(50,A),(60,A')] [(7,ts),(17,ts')] [(1,x.name)]:=⟨_,rfl⟩;have bs:=cr.app (cg (ρ:=ρ) (i:=10) (n:=51) (I:=i) (N:=l.length) (by rw[hρ];rfl) (by rw[hρ];rfl) hlt) (cg (ρ:=ρ) (i:=10) (n:=61) (I:=i) (N:=l.length) (by rw[hρ];rfl) (by rw[hρ];rfl) hlt);have mm:∀{w1:World},bA w w1->cw ρ w1 Sy:=fun f=>⟨by rw[hρ];exact f.cell (fw.cell a0),by rw[hρ];exact f.cell (fw.cell a1),by rw[hρ];exact f.cell (fw.cell a2),by rw[hρ];exact f.cell (fw.cell b0),by rw[hρ];exact f.cell (fw.cell b1),by rw[hρ];exact f.cell (fw.cell b2),trivial⟩;refine(aeR.go ρ hf (by rw[hρ];rfl) bs (mm (bA.refl w))).trans fun g1 w1 hd=>?_;obtain⟨I,B,bT,rfl,f1,F1,_⟩:=hd;rw[hρ]at F1;refine(OP (ρ:=ρ) (x:=x) (by rw[hρ];exact aN.keep (fw.trans f1)) (by rw[hρ];exact bN.keep (fw.trans f1)) (ji x (ay hx)) (by rw[hρ];rfl) (by rw[hρ];rfl) bs (mm f1) (by rw[hρ];rfl) F1).trans fun g2 w2 bX=>?_;obtain⟨cB,zD,rfl,f2,F2,oQ,kL⟩:=bX;obtain⟨u,q,eu⟩:=kL 9 (by decide) rfl;have eu:u=(FB:AV).ev ρ:=eu;subst eu;have lg:=F2.sub (i_:=told ρ IU++[(26,(FB:AV).ev ρ)]) fun x hx=>by
   rcases aR.1 hx with h|h
   ·exact oQ x h
   ·obtain rfl:=ah.1 h;exact q
  rw[hρ]at lg;refine(aeS.go (bL [(10,i)] [] [(0,bU A o l.length c),(1,bU A' o' l.length c')]) lg rfl trivial trivial).trans fun g3 w3 cn=>?_;obtain⟨I,B3,cC,rfl,f3,F3,_⟩:=cn;refine GG (z:=false) (y:=false) (c:=c) (c':=c') (fun h=>by cases h) (fun h=>by cases h) cL jE hlen ji k (i+1) (by omega) (fw.trans (f1.trans (f2.trans f3))) ?_;rw[<-inc (i:=i) (by omega)];exact F3
theorem EK{a b:Value}{l:List cH}(ha:rG w a l)(hb:nA w b l)(hlen:l.length≤4294967000)(ji:∀x∈l,x.tree.length≤4294967000):dS 32 #[a,b] w fun v w'=>bA w w'∧v=.bool true:=by
 obtain⟨z,A,o,c,rfl,hz,oU,cL⟩:=ha.ex;obtain⟨y,A',o',c',rfl,hy,Dl,jE⟩:=hb.ex;refine cF fun cs=>?_;obtain⟨ρ,hρ⟩:∃ρ:Env,ρ=bL [(51,l.length),(52,c),(53,o),(61,l.length),(62,c'),(63,o')] [(50,A),(60,A')] []:=⟨_,rfl⟩;have nz:(dL z 51).ev ρ=(l.length:Int):=by
  rw[hρ];cases z with
  |false=>rfl
  |true=>rw[hz rfl];rfl
 have ny:(dL y 61).ev ρ=(l.length:Int):=by
  rw[hρ];cases y with
  |false=>rfl
  |true=>rw[hy rfl];rfl
 refine((aeQ z y).go ρ (dV Sw rfl (ew z A o l.length c) (ew y A' o' l.length c')) (by rw[hρ];cases z<;>cases y<;>rfl) ⟨by show(!decide ((dL z 51).ev ρ=(dL y 61).ev ρ))=false;rw[nz,ny];simp,trivial⟩ trivial).trans fun g1 w1 hd=>?_
 obtain⟨I,B,bT,rfl,f1,F1,_⟩:=hd;have fI:FA 32 27 QsH [] .normal [(0,ew z A o l.length c),(1,ew y A' o' l.length c'),(5,iV (0:Nat))] bT:=by rw[hρ]at F1;cases z<;>cases y<;>exact F1
 refine(GG (w0:=w) hz hy cL jE hlen ji l.length 0 (by omega) f1 fI).mono fun g2 w2 bX=>?_;obtain⟨cB,rfl,f2,hL⟩:=bX;exact⟨cB,_,rfl,hL,f2,rfl⟩
end
noncomputable def IW(l:Nat):Code:=pc (bD Tryz.f12) (pd l)
theorem Sz:bP Tryz.prog 12 [.bC 0,.bC 1] .normal=.ok ⟨12,17,c8 12 [.bC 0,.bC 1],[.code (bD Tryz.f12)],[],.run,.normal⟩:=by kernel_rfl
theorem SA:dP 12 17 4:=fun st=>by kernel_rfl
theorem aeU:Pc 12 17 [.code (bD Tryz.f12)] ([(0,.agg [.bC 8,.bC 9]),(1,.agg [.bC 18,.bC 19])]) [] [] [] 12 [101,100] [2,3,6,8] [.inRegion (opsOf (IW 6)) [4,5,6,7,8,9,10,11,12],.code .ret] [bz 100,bz 101,.bC 8,.bC 18] [(101,.cells [.bC 18,.bC 19] 25),(100,.cells [.bC 8,.bC 9] 25)]:={}
theorem aeV:di 17 (opsOf (IW 6)) 4 [(6,.bC 6),(8,.bC 8)] 32 [.bC 6,.bC 8] 9:={}
theorem aeW:Pc 12 17 [.inRegion (opsOf (IW 6)) [5,6,7,8,9,10,11,12],.code .ret] ([(2,bz 64),(3,bz 65),(9,TB)]) [] [(eD 64 1,.bC 9),(eD 65 1,.bC 19)] [] 5 [] [10,12,14] [.inRegion (opsOf (IW 6)) [10,11,12],.code .ret] [TB,.bC 9,.bC 19] []:={}
theorem aeX:di 17 (opsOf (IW 6)) 10 [(10,TB),(12,.bC 12),(14,.bC 14)] 33 [.bC 12,.bC 14] 15:={}
theorem aeY:Pc 12 17 [.inRegion (opsOf (IW 6)) [11,12],.code .ret] ([(10,TB),(15,TB)]) [] [] [] 3 [] [4] [.code .ret] [TB] []:={}
section
variable {w:World}
theorem EL{a b:Value}{F:gU}(ha:oy w a F)(hb:mC w b F)(hlen:F.lets.length≤4294967000)(ji:∀x∈F.lets,x.tree.length≤4294967000)(Sr:F.outs.length≤4294967000):dS 12 #[a,b] w fun v w'=>bA w w'∧v=.bool true:=by
 obtain⟨la,oa,rfl,hla,hoa⟩:=ha;obtain⟨lb,ob,rfl,hlb,hob⟩:=hb;refine cF fun cs=>?_;refine(aeU.go (bL [] [] [(8,la),(9,oa),(18,lb),(19,ob)]) (dV Sz rfl (.agg #[la,oa]) (.agg #[lb,ob])) rfl trivial trivial).trans fun g1 w1 hd=>?_;obtain⟨I,B,bT,rfl,f1,F1,bl,_⟩:=hd;obtain⟨X,eX⟩:∃X,B 100=X:=⟨_,rfl⟩;obtain⟨Y,eY⟩:∃Y,B 101=Y:=⟨_,rfl⟩;have hX:(cu.obj 25 [la,oa]).at Tryz.prog w1 X:=by rw[<-eX];exact bl.2.1.2
 have hY:(cu.obj 25 [lb,ob]).at Tryz.prog w1 Y:=by rw[<-eY];exact bl.1.2
 have fI:=F1.only (l:=[(2,bI X),(3,bI Y),(6,la),(8,lb)]) (by rw[<-eX,<-eY];rfl);refine(aeV.go (bL [] [] [(6,la),(8,lb)]) (Q:=fun v w'=>v=.bool true) fI rfl fun w' f=>EK (hla.keep (f1.trans f)) (hlb.keep (f1.trans f)) hlen ji).trans fun g2 w2 bX=>?_;obtain⟨cB,vv,rfl,f2,rfl,F2⟩:=bX;refine(aeW.go (bL [] [(64,X),(65,Y)] [(9,oa),(19,ob)]) F2 rfl trivial ⟨f2.cell (bE hX (i:=1) rfl),f2.cell (bE hY (i:=1) rfl),trivial⟩).trans fun g3 w3 cn=>?_;obtain⟨I3,B3,cC,rfl,f3,F3,_⟩:=cn;have f13:=f1.trans (f2.trans f3);refine(aeX.go (bL [] [] [(12,oa),(14,ob)]) (Q:=fun v w'=>v=.bool true) F3 rfl fun w' f=>EF (hoa.keep (f13.trans f)) (hob.keep (f13.trans f)) Sr).trans fun g4 w4 c9=>?_;obtain⟨eg,vv,rfl,f4,rfl,F4⟩:=c9;refine(aeY.go (bL [] [] []) F4 rfl trivial trivial).trans fun g5 w5 d_=>?_;obtain⟨I5,B5,gh,rfl,f5,F5,_⟩:=d_;refine(leave1 SA F5 rfl).mono fun g6 w6 dj=>?_;obtain⟨dJ,rfl,rfl,hL⟩:=dj;exact⟨dJ,_,rfl,hL,f13.trans (f4.trans f5),rfl⟩
end
noncomputable def nB(l:Nat):Code:=pc (bD Tryz.f35) (pd l)
theorem SB:bP Tryz.prog 35 [.bC 0] .normal=.ok ⟨35,28,c8 35 [.bC 0],[.code (bD Tryz.f35)],[],.run,.normal⟩:=by kernel_rfl
theorem SC:dP 35 28 2:=fun st=>by kernel_rfl
theorem ae0:Pc 35 28 [.code (bD Tryz.f35)] ([(0,sA 50 53 51 52)]) [] [] [] 10 [] [0,6,9] [.inRegion (opsOf (nB 6)) [4,5],.code (nB 7)] [sA 50 53 51 52,sA 50 53 51 52,i64 (.op .add .i64 (.tn (v 51)) (.lit 64))] []:={}
theorem ae1:jO 28 (opsOf (nB 6)) 4 [] (.slice 23 (.tmp 6) none (some (.tmp 9)) none) 23 (some 10):={}
noncomputable abbrev CC:List Item:=[.code (nB 116),.inLoop (nB 116),.inBlock 0,.code (nB 15)]
theorem ae2:Pc 35 28 [.inRegion (opsOf (nB 6)) [5],.code (nB 7)] ([(0,sA 50 53 51 52),(10,.bC 5)]) [] [] [] 11 [] [3,4] CC [.bC 5,i64 (.tn (v 51))] []:={}
theorem ae3:Pc 35 28 CC ([(3,sA 60 63 61 62),(4,i64 (v 10))]) (fN 10 61) [(eC 60 63 10,i64 (v 11))] [] 24 [] [3,4,23,24] [.inRegion (opsOf (nB 3730)) [2,3,4],.code (nB 3731),.inBlock 1,.code (nB 467),.inLoop (nB 116),.inBlock 0,.code (nB 15)] [sA 60 63 61 62,i64 (v 10),i64 (v 11),i64 (v 10)] []:={}
theorem ae4:di 28 (opsOf (nB 3730)) 2 [(24,.bC 24)] 25 [i64 (.lit 9),.bC 24] 25:={}
theorem ae5:Pc 35 28 [.inRegion (opsOf (nB 3730)) [3,4],.code (nB 3731),.inBlock 1,.code (nB 467),.inLoop (nB 116),.inBlock 0,.code (nB 15)] ([(3,sA 60 63 61 62),(4,i64 (v 10)),(23,i64 (v 11)),(25,i64 (v 20))]) [((.cmp .eql (v 11) (v 20)),true)] [] [] 12 [] [3,4] CC [sA 60 63 61 62,i64 (.op .add .i64 (v 10) (.lit 1))] []:={}
theorem ae6:Pc 35 28 CC ([(3,sA 60 63 61 62),(4,i64 (v 10))]) tc [] [] 14 [] [2] [.code .ret] [TB] []:={}
theorem Mj{t elem size:Nat}(hU:under? Tryz.prog t=.ok (.slice elem))(hS:sizeOf? Tryz.prog elem=.ok size){off n c k:Nat}(h:k≤c)(hn:n≤c):sliceOp? Tryz.prog t (.slice (some ⟨.dyn 50,.lit (Int.ofNat off)⟩) (.lit (Int.ofNat n)) (.lit (Int.ofNat c))) none (some (.int .i64 (.lit (Int.ofNat k)))) none=.ok (.slice (some ⟨.dyn 50,.lit (Int.ofNat off)⟩) (.lit (Int.ofNat k)) (.lit (Int.ofNat c))):=by unfold sliceOp?;rw[hU];simp only[bind,Except.bind,litNat?,bounds?,bound?,high?,hS,pure,Except.pure];simp[h,hn,AA.add,yd]
section
variable {w w0:World}{cs:List Frame}{fr:Frame}
theorem tw{E:Value->World->Prop}{t elem size:Nat}(hU:under? Tryz.prog t=.ok (.slice elem))(hS:sizeOf? Tryz.prog elem=.ok size){A off n c k:Nat}(h:k≤c)(hn:n≤c){Q:Value->World->Prop}(hq:Q (bU A off k c) w):
  wq Tryz.prog (fun _=>True) E (Instr.sliceAt t (bU A off n c) none (some (iV k)) none) Q w:=by
 let K:Ctx:=⟨Tryz.prog,{},fun _=>True,fun _=>True,True,fun _ _=>False⟩;let ρ:Env:=bL [] [(50,A)] [];exact kr (K:=K) (ρ:=ρ) (w:=w) (Mj (off:=off) (k:=k) hU hS h hn) (Q:=Q) hq
noncomputable abbrev SiH:List Item:=CC
theorem GH{B n:Nat}{l:List Int}(hn:n=l.length)(hlen:l.length≤4294967000)(hc:∀i,i<n+64->n≤i->w0.cell? ⟨B,i,none⟩=some (iV (9437185+i:Nat))):
  ∀(k i:Nat) {w:World} {fr:Frame},i+k=n+64->n≤i->bA w0 w->FA 35 28 SiH [] .normal [(3,bU B 0 (n+64) (n+64)),(4,iV i)] fr->
  Goes (G fr cs) w fun g' w'=>∃fr',g'=G fr' cs∧bA w0 w'∧cV 35 fr' w' (.bool true)
 |0,i,w,fr,hi,hni,fw,hf=>by obtain⟨ρ,hρ⟩:∃ρ:Env,ρ=bL [(61,(n+64:Nat)),(62,(n+64:Nat)),(63,0),(10,i)] [(60,B)] []:=⟨_,rfl⟩;refine(ae6.go ρ hf (by rw[hρ];rfl) ⟨by rw[hρ];exact decide_eq_false (by show ¬((i:Int)<(((n+64:Nat):Nat):Int));omega),trivial⟩ trivial).trans fun g1 w1 hd=>?_;obtain⟨I,B1,bT,rfl,f1,F1,_⟩:=hd;refine(leave1 SC F1 rfl).mono fun g6 w6 dj=>?_;obtain⟨dJ,rfl,rfl,hL⟩:=dj;exact⟨dJ,rfl,fw.trans f1,hL⟩
 |k+1,i,w,fr,hi,hni,fw,hf=>by
  obtain⟨ρ,hρ⟩:∃ρ:Env,ρ=bL [(61,(n+64:Nat)),(62,(n+64:Nat)),(63,0),(10,i),(11,(9437185+i:Nat)),(20,(9437185+i:Nat))] [(60,B)] []:=⟨_,rfl⟩;refine(ae3.go ρ hf (by rw[hρ];rfl) (cg (i:=10) (n:=61) (I:=i) (N:=n+64) (by rw[hρ];rfl) (by rw[hρ];rfl) (by omega)) ⟨by rw[hρ];show w.cell? ⟨B,0+i,none⟩=_;rw[aG];exact fw.cell (hc i (by omega) hni),trivial⟩).trans fun g1 w1 hd=>?_
  obtain⟨I,B1,bT,rfl,f1,F1,_⟩:=hd;rw[hρ]at F1;refine(ae4.go (bL [] [] [(24,iV i)]) (Q:=fun v w'=>v=iV (9437185+i:Nat)) F1 rfl fun w' f=>lI (by omega)).trans fun g2 w2 bX=>?_;obtain⟨cB,vv,rfl,f2,rfl,F2⟩:=bX;refine(ae5.go ρ F2 (by rw[hρ];rfl) ⟨by rw[hρ];exact decide_eq_true rfl,trivial⟩ trivial).trans fun g3 w3 cn=>?_;obtain⟨I3,B3,cC,rfl,f3,F3,_⟩:=cn;rw[hρ]at F3;refine GH hn hlen hc k (i+1) (by omega) (by omega) (fw.trans (f1.trans (f2.trans f3))) ?_;rw[<-inc (i:=i) (by omega)];exact F3
theorem yH{base:Nat}{s:Value}{l:List Int}(h:j_ w base s l)(hlen:l.length≤4294967000):dS 35 #[s] w fun v w'=>bA w w'∧v=.bool true:=by
 obtain⟨B,_,rfl,hv⟩:=h;refine cF fun cs=>?_;obtain⟨ρ,hρ⟩:∃ρ:Env,ρ=bL [(51,l.length),(52,(l.length+64:Nat)),(53,0)] [(50,B)] []:=⟨_,rfl⟩;refine(ae0.go ρ (cz SB rfl (bU B 0 l.length (l.length+64))) (by rw[hρ];rfl) trivial trivial).trans fun g1 w1 hd=>?_;obtain⟨I,B1,bT,rfl,f1,F1,_⟩:=hd;have fI:FA 35 28 (.inRegion (opsOf (nB 6)) [4,5]::[.code (nB 7)]) [] .normal [(0,bU B 0 l.length (l.length+64)),(6,bU B 0 l.length (l.length+64)),(9,iV (l.length+64:Nat))] bT:=by rw[<-lu hlen];rw[hρ]at F1;exact F1
 refine(ae1.go (R:=fun y w'=>y=bU B 0 (l.length+64) (l.length+64)∧w'=w1) (bL [] [] []) fI (by decide) rfl fun tm ie x' e1 e2=>?_).trans fun g2 w2 bX=>?_
 ·unfold execOp;simp only[e1,bF,av,aI];rw[ie 6 _ rfl,ie 9 (iV (l.length+64:Nat)) rfl];exact tw (t:=23) (elem:=3) (size:=1) (by kernel_rfl) (by kernel_rfl) (ax _) (by omega) ⟨_,rfl,rfl,rfl⟩
 obtain⟨cB,y,rfl,⟨rfl,rfl⟩,F2⟩:=bX;refine(ae2.go (bL [(51,l.length),(52,(l.length+64:Nat)),(53,0)] [(50,B)] [(5,bU B 0 (l.length+64) (l.length+64))]) F2 rfl trivial trivial).trans fun g3 w3 cn=>?_;obtain⟨I3,B3,cC,rfl,f3,F3,_⟩:=cn;refine(GH (w0:=w3) (n:=l.length) rfl hlen (fun i hi hni=>?_) 64 l.length (by omega) (ax _) (bA.refl _) F3).mono fun g4 w4 c9=>?_
 ·refine(f1.trans f3).cell (cu.cR hv ?_);have e:=kD (f:=th l) (sz:=1) (xA l) (l.length+64) i 0 hi (by decide);rw[Nat.mul_one,Nat.add_zero]at e;refine e.trans ?_;unfold th;rw[show l[i]?=none from aM (by omega)];rfl
 ·obtain⟨eg,rfl,f4,hL⟩:=c9;exact⟨eg,_,rfl,hL,(f1.trans f3).trans f4,rfl⟩
end
noncomputable def mE(l:Nat):Code:=pc (bD Tryz.f15) (pd l)
theorem SD:bP Tryz.prog 15 [.bC 0] .normal=.ok ⟨15,29,c8 15 [.bC 0],[.code (bD Tryz.f15)],[],.run,.normal⟩:=by kernel_rfl
theorem SF:dP 15 29 2:=fun st=>by kernel_rfl
theorem ae7:Pc 15 29 [.code (bD Tryz.f15)] ([(0,sA 50 53 51 52)]) [] [] [] 10 [] [0,6,9] [.inRegion (opsOf (mE 6)) [4,5],.code (mE 7)] [sA 50 53 51 52,sA 50 53 51 52,i64 (.op .add .i64 (.tn (v 51)) (.lit 64))] []:={}
theorem ae8:jO 29 (opsOf (mE 6)) 4 [] (.slice 28 (.tmp 6) none (some (.tmp 9)) none) 28 (some 10):={}
noncomputable abbrev CD:List Item:=[.code (mE 116),.inLoop (mE 116),.inBlock 0,.code (mE 15)]
theorem ae9:Pc 15 29 [.inRegion (opsOf (mE 6)) [5],.code (mE 7)] ([(0,sA 50 53 51 52),(10,.bC 5)]) [] [] [] 11 [] [3,4] CD [.bC 5,i64 (.tn (v 51))] []:={}
theorem ae_:Pc 15 29 CD ([(3,sA 60 63 61 62),(4,i64 (v 10))]) (fN 10 61) [(eB 60 63 10 2,i8 (.lit 0)),(eA 60 63 10 2 1,i64 (v 20))] [] 22 [100] [3,4,5] [.code (mE 3730),.code (mE 3731),.inBlock 1,.code (mE 467),.inLoop (mE 116),.inBlock 0,.code (mE 15)] [sA 60 63 61 62,i64 (v 10),bz 100] [(100,.cells [i8 (.lit 0),i64 (v 20)] 43)]:={}
theorem ae':Pc 15 29 [.inRegion (opsOf (mE 3730)) [],.code (mE 3731),.inBlock 1,.code (mE 467),.inLoop (mE 116),.inBlock 0,.code (mE 15)] ([(3,.bC 3),(4,i64 (v 10)),(28,FB)]) [] [] [] 10 [] [3,4] CD [.bC 3,i64 (.op .add .i64 (v 10) (.lit 1))] []:={}
theorem afa:Pc 15 29 CD ([(3,sA 60 63 61 62),(4,i64 (v 10))]) tc [] [] 14 [] [2] [.code .ret] [TB] []:={}
noncomputable def mG(l:Nat):Code:=pc (bD Tryz.f80) (pd l)
theorem SG:bP Tryz.prog 80 [.bC 0] .normal=.ok ⟨80,29,c8 80 [.bC 0],[.code (bD Tryz.f80)],[],.run,.normal⟩:=by kernel_rfl
theorem SH:dP 80 29 2:=fun st=>by kernel_rfl
theorem afb:Pc 80 29 [.code (bD Tryz.f80)] ([(0,sA 50 53 51 52)]) [] [] [] 10 [] [0,6,9] [.inRegion (opsOf (mG 6)) [4,5],.code (mG 7)] [sA 50 53 51 52,sA 50 53 51 52,i64 (.op .add .i64 (.tn (v 51)) (.lit 64))] []:={}
theorem afc:jO 29 (opsOf (mG 6)) 4 [] (.slice 48 (.tmp 6) none (some (.tmp 9)) none) 48 (some 10):={}
noncomputable abbrev CE:List Item:=[.code (mG 116),.inLoop (mG 116),.inBlock 0,.code (mG 15)]
theorem afd:Pc 80 29 [.inRegion (opsOf (mG 6)) [5],.code (mG 7)] ([(0,sA 50 53 51 52),(10,.bC 5)]) [] [] [] 11 [] [3,4] CE [.bC 5,i64 (.tn (v 51))] []:={}
theorem afe:Pc 80 29 CE ([(3,sA 60 63 61 62),(4,i64 (v 10))]) (fN 10 61) [(eB 60 63 10 4,i8 (.lit 0)),(eA 60 63 10 4 1,i64 (.lit 0)),(eA 60 63 10 4 2,i64 (.lit 0)),(eA 60 63 10 4 3,i64 (v 20))] [] 22 [100] [3,4,5] [.code (mG 3730),.code (mG 3731),.inBlock 1,.code (mG 467),.inLoop (mG 116),.inBlock 0,.code (mG 15)] [sA 60 63 61 62,i64 (v 10),bz 100] [(100,.cells [i8 (.lit 0),i64 (.lit 0),i64 (.lit 0),i64 (v 20)] 77)]:={}
theorem aff:Pc 80 29 [.inRegion (opsOf (mG 3730)) [],.code (mG 3731),.inBlock 1,.code (mG 467),.inLoop (mG 116),.inBlock 0,.code (mG 15)] ([(3,.bC 3),(4,i64 (v 10)),(28,FB)]) [] [] [] 10 [] [3,4] CE [.bC 3,i64 (.op .add .i64 (v 10) (.lit 1))] []:={}
theorem afg:Pc 80 29 CE ([(3,sA 60 63 61 62),(4,i64 (v 10))]) tc [] [] 14 [] [2] [.code .ret] [TB] []:={}
noncomputable abbrev qJ:Array Oper:=opsOf (mE 3730)
theorem SI:dD 29 qJ 0 [] [(eD 65 0,i8 (.lit 0)),(eD 65 1,i64 (v 20))] [(5,bz 65)] (.agg [i8 (.lit 0),i64 (v 20)]) 23:={}
theorem SJ:dD 29 qJ 1 [] [] [(4,i64 (v 10))] (i64 (v 10)) 24:={}
theorem SK:di 29 qJ 2 [(24,i64 (v 10))] 25 [i64 (.lit 9),i64 (v 10)] 25:={}
theorem SL:dD 29 qJ 3 [] [] [(25,i64 (v 20))] (.agg [i8 (.lit 0),i64 (v 20)]) 26:={}
abbrev zJ:List (BE×Bool):=[((.cmp .eql (v 20) (v 20)),true)]
theorem SM:dD 29 qJ 4 zJ [] [(23,.agg [i8 (.lit 0),i64 (v 20)]),(26,.agg [i8 (.lit 0),i64 (v 20)])] (TB) 27:={}
theorem SN:dD 29 qJ 5 [] [] [(27,TB)] (FB) 28:={}
def GI(i:Nat):Nat:=match i with
 |0=>23|1=>24|2=>25|3=>26|4=>27|_=>28
noncomputable abbrev CF:List (Nat×AV):=[(3,.bC 3),(4,i64 (v 10)),(5,bz 65)]
noncomputable abbrev Qj:List (AA×AV):=[(eD 65 0,i8 (.lit 0)),(eD 65 1,i64 (v 20))]
noncomputable abbrev Qk:List (BE×Bool):=zJ
noncomputable def xJ(ρ:Env)(i:Nat)(u:Value)(w:World):Prop:=match i with
 |0=>u=(.agg [i8 (.lit 0),i64 (v 20)]:AV).ev ρ
 |1=>u=(i64 (v 10):AV).ev ρ
 |2=>u=(i64 (v 20):AV).ev ρ
 |3=>u=(.agg [i8 (.lit 0),i64 (v 20)]:AV).ev ρ
 |4=>u=(TB:AV).ev ρ
 |_=>u=(FB:AV).ev ρ
theorem EM{ρ:Env}(i:Nat)(u:Value)(w w':World)(h:xJ ρ i u w)(f:bA w w'):xJ ρ i u w':=by
 unfold xJ at h⊢;split at h
 all_goals first|exact h
section
variable {w w0:World}{cs:List Frame}{fr:Frame}
theorem IX{ρ:Env}{i:Nat}{k:List Item}(Mk:ρ.i 10=(i:Int))(Ml:ρ.i 20=((9437185+i:Nat):Int))(pi:i≤4294967296)(iA:cr ρ Qk)(hmem:cw ρ w0 Qj):
  ∀i,i<6->(true)=true->∀(l:List Nat) (w:World) (fr:Frame) (lv:List (Nat×Value)),bA w0 w->FA 15 29 (.inRegion qJ (i::l)::k) [] .normal lv fr->(∀x∈told ρ CF,x∈lv)->(∀p∈ja qJ i,∃v,(GI p,v)∈lv∧xJ ρ p v w)->
   Goes (G fr cs) w fun g' w'=>∃fr' v,g'=G fr' cs∧bA w w'∧xJ ρ i v w'∧FA 15 29 (.inRegion qJ l::k) [] .normal (fL (GI i) v lv) fr':=by
 intro j hi he l w fr lv f hf hb hp;have bm:∀{j:Nat} {q:Nat×Value},(told ρ CF)[j]?=some q->q∈lv:=fun h=>hb _ (ay h);rcases(by omega:j=0∨j=1∨j=2∨j=3∨j=4∨j=5)with rfl|rfl|rfl|rfl|rfl|rfl
 ·exact SI.dc ρ hf (by decide) (cT (bm (j:=2) rfl)) trivial ⟨f.cell hmem.1,f.cell hmem.2.1,trivial⟩ rfl
 ·exact SJ.dc ρ hf (by decide) (cT (bm (j:=1) rfl)) trivial trivial rfl
 ·obtain⟨v1,q1,e1⟩:=hp 1 (dy (by kernel_rfl));have e1:v1=(i64 (v 10):AV).ev ρ:=e1;subst e1;exact SK.dc ρ (Q:=fun u w'=>u=(i64 (v 20)).ev ρ) hf (cT q1) (fun w' f1=>by show dS 25 #[iV 9,iV (ρ.i 10)] w' _;rw[Mk];refine(lI pi).mono fun u w2 hd=>⟨hd.1,?_⟩;rw[hd.2,<-Ml];rfl)
 ·obtain⟨v2,q2,e2⟩:=hp 2 (dy (by kernel_rfl));have e2:v2=(i64 (v 20):AV).ev ρ:=e2;subst e2;exact SL.dc ρ hf (by decide) (cT q2) trivial trivial rfl
 ·obtain⟨v0,q0,e0⟩:=hp 0 (dy (by kernel_rfl));have e0:v0=(.agg [i8 (.lit 0),i64 (v 20)]:AV).ev ρ:=e0;subst e0;obtain⟨v3,q3,e3⟩:=hp 3 (dy (by kernel_rfl));have e3:v3=(.agg [i8 (.lit 0),i64 (v 20)]:AV).ev ρ:=e3;subst e3;exact SM.dc ρ hf (by decide) (kX q0 q3) ⟨iA.1,trivial⟩ trivial rfl
 ·obtain⟨v4,q4,e4⟩:=hp 4 (dy (by kernel_rfl));have e4:v4=(TB:AV).ev ρ:=e4;subst e4;exact SN.dc ρ hf (by decide) (cT q4) trivial trivial rfl
theorem Mm{ρ:Env}{i:Nat}{k:List Item}{lv:List (Nat×Value)}(Mk:ρ.i 10=(i:Int))(Ml:ρ.i 20=((9437185+i:Nat):Int))(pi:i≤4294967296)(iA:cr ρ Qk)(hmem:cw ρ w Qj)(hl:fT lv (told ρ CF))(hf:FA 15 29 (.code (mE 3730)::k) [] .normal lv fr):
  Goes (G fr cs) w fun g' w'=>∃fr' i_,g'=G fr' cs∧bA w w'∧FA 15 29 (.inRegion qJ []::k) [] .normal i_ fr'∧(∀x∈told ρ CF,x∈i_)∧∀i,i<6->(true)=true->∃v,(GI i,v)∈i_∧xJ ρ i v w':=by
 obtain⟨id,hid⟩:=gI (c:=mE 3730) (by kernel_rfl);have hf:=hf.only hl;rw[hid]at hf;refine(gH hf).trans fun g1 w1 hd=>?_;obtain⟨ls,bT,rfl,f1,hs,F1⟩:=hd;refine(ij (b:=told ρ CF) (nm:=GI) (val:=xJ ρ) (early:=fun _=>true) (late:=[]) (n:=6) (w0:=w) (by kernel_rfl) (by kernel_rfl) (by kernel_rfl) (by kernel_rfl) (by kernel_rfl) (by kernel_rfl) (by kernel_rfl) List.Pairwise.nil EM (IX Mk Ml pi iA hmem) ls [] f1 (fun i hi=>by cases hi) hs ⟨_,F1,fun x hx=>hx,fun i hi=>by cases hi⟩).mono fun g2 w2 bX=>?_;obtain⟨cB,lv,h1,h2,h3,h4,h5⟩:=bX;exact⟨cB,lv,h1,h2,h3,h4,h5⟩
end
noncomputable abbrev afh:List Item:=CD
section
variable {w w0:World}{cs:List Frame}{fr:Frame}
theorem CG{B n:Nat}(hlen:n≤4294967000)(hc:∀i,i<n+64->n≤i->w0.cell? ⟨B,i*2,none⟩=some (cY 0)∧w0.cell? ⟨B,i*2+1,none⟩=some (iV (9437185+i:Nat))):
  ∀(k i:Nat) {w:World} {fr:Frame},i+k=n+64->n≤i->bA w0 w->FA 15 29 afh [] .normal [(3,bU B 0 (n+64) (n+64)),(4,iV i)] fr->
  Goes (G fr cs) w fun g' w'=>∃fr',g'=G fr' cs∧bA w0 w'∧cV 15 fr' w' (.bool true)
 |0,i,w,fr,hi,hni,fw,hf=>by obtain⟨ρ,hρ⟩:∃ρ:Env,ρ=bL [(61,(n+64:Nat)),(62,(n+64:Nat)),(63,0),(10,i)] [(60,B)] []:=⟨_,rfl⟩;refine(afa.go ρ hf (by rw[hρ];rfl) ⟨by rw[hρ];exact decide_eq_false (by show ¬((i:Int)<(((n+64:Nat):Nat):Int));omega),trivial⟩ trivial).trans fun g1 w1 hd=>?_;obtain⟨I,B1,bT,rfl,f1,F1,_⟩:=hd;refine(leave1 SF F1 rfl).mono fun g6 w6 dj=>?_;obtain⟨dJ,rfl,rfl,hL⟩:=dj;exact⟨dJ,rfl,fw.trans f1,hL⟩
 |k+1,i,w,fr,hi,hni,fw,hf=>by
  obtain⟨ρ,hρ⟩:∃ρ:Env,ρ=bL [(61,(n+64:Nat)),(62,(n+64:Nat)),(63,0),(10,i),(20,(9437185+i:Nat))] [(60,B)] []:=⟨_,rfl⟩;refine(ae_.go ρ hf (by rw[hρ];rfl) (cg (i:=10) (n:=61) (I:=i) (N:=n+64) (by rw[hρ];rfl) (by rw[hρ];rfl) (by omega)) ⟨by rw[hρ];show w.cell? ⟨B,0+i*2,none⟩=_;rw[aG];exact fw.cell (hc i (by omega) hni).1,by rw[hρ];show w.cell? ⟨B,0+i*2+1,none⟩=_;rw[aG];exact fw.cell (hc i (by omega) hni).2,trivial⟩).trans fun g1 w1 hd=>?_;obtain⟨I,B1,bT,rfl,f1,F1,bl,_⟩:=hd;obtain⟨X,eX⟩:∃X,B1 100=X:=⟨_,rfl⟩;rw[hρ]at F1 bl;obtain⟨σ,jN⟩:∃ρ:Env,ρ=bL [(10,i),(20,(9437185+i:Nat))] [(65,B1 100)] [(3,bU B 0 (n+64) (n+64))]:=⟨_,rfl⟩;refine(Mm (ρ:=σ) (i:=i) (by rw[jN];rfl) (by rw[jN];rfl) (by omega) ⟨by rw[jN];exact decide_eq_true rfl,trivial⟩ ⟨by rw[jN];exact bE bl.1.2 (i:=0) rfl,by rw[jN];exact bE bl.1.2 (i:=1) rfl,trivial⟩ (by rw[jN];rfl) F1).trans fun g2 w2 bX=>?_;obtain⟨cB,zD,rfl,f2,F2,oQ,kL⟩:=bX;obtain⟨u,q,eu⟩:=kL 5 (by decide) rfl;have eu:u=(FB:AV).ev σ:=eu;subst eu;have lg:=F2.sub (i_:=[(3,bU B 0 (n+64) (n+64)),(4,iV i),(28,.bool false)]) fun x hx=>by
   simp only[aj,az,or_false]at hx;rcases hx with rfl|rfl|rfl
   ·exact oQ _ (by rw[jN];exact ai ..)
   ·exact oQ _ (by rw[jN];exact aa _ (ai ..))
   ·exact q
  refine(ae'.go (bL [(10,i)] [] [(3,bU B 0 (n+64) (n+64))]) lg rfl trivial trivial).trans fun g3 w3 cn=>?_;obtain⟨I3,B3,cC,rfl,f3,F3,_⟩:=cn;refine CG hlen hc k (i+1) (by omega) (by omega) (fw.trans (f1.trans (f2.trans f3))) ?_;rw[<-inc (i:=i) (by omega)];exact F3
theorem yI{B:Nat}{l:List (Int×Int)}(hv:(cu.vec 43 (l.length+64) (j8 l (l.length+64))).at Tryz.prog w B)(hlen:l.length≤4294967000):dS 15 #[bU B 0 l.length (l.length+64)] w fun v w'=>bA w w'∧v=.bool true:=by
 refine cF fun cs=>?_;obtain⟨ρ,hρ⟩:∃ρ:Env,ρ=bL [(51,l.length),(52,(l.length+64:Nat)),(53,0)] [(50,B)] []:=⟨_,rfl⟩;refine(ae7.go ρ (cz SD rfl (bU B 0 l.length (l.length+64))) (by rw[hρ];rfl) trivial trivial).trans fun g1 w1 hd=>?_;obtain⟨I,B1,bT,rfl,f1,F1,_⟩:=hd;have fI:FA 15 29 (.inRegion (opsOf (mE 6)) [4,5]::[.code (mE 7)]) [] .normal [(0,bU B 0 l.length (l.length+64)),(6,bU B 0 l.length (l.length+64)),(9,iV (l.length+64:Nat))] bT:=by rw[<-lu hlen];rw[hρ]at F1;exact F1
 refine(ae8.go (R:=fun y w'=>y=bU B 0 (l.length+64) (l.length+64)∧w'=w1) (bL [] [] []) fI (by decide) rfl fun tm ie x' e1 e2=>?_).trans fun g2 w2 bX=>?_
 ·unfold execOp;simp only[e1,bF,av,aI];rw[ie 6 _ rfl,ie 9 (iV (l.length+64:Nat)) rfl];exact tw (t:=28) (elem:=43) (size:=2) (by kernel_rfl) (by kernel_rfl) (ax _) (by omega) ⟨_,rfl,rfl,rfl⟩
 obtain⟨cB,y,rfl,⟨rfl,rfl⟩,F2⟩:=bX;refine(ae9.go (bL [(51,l.length),(52,(l.length+64:Nat)),(53,0)] [(50,B)] [(5,bU B 0 (l.length+64) (l.length+64))]) F2 rfl trivial trivial).trans fun g3 w3 cn=>?_;obtain⟨I3,B3,cC,rfl,f3,F3,_⟩:=cn;refine(CG (w0:=w3) (n:=l.length) hlen (fun i hi hni=>?_) 64 l.length (by omega) (ax _) (bA.refl _) F3).mono fun g4 w4 c9=>?_
 ·have e:∀r,r<2->(j8 l (l.length+64))[i*2+r]?=[cY 0,iV (9437185+i:Nat)][r]?:=fun r hr=>by
   refine(kD (f:=tj l) (sz:=2) (xE l) (l.length+64) i r hi hr).trans ?_;unfold tj;rw[show l[i]?=none from aM (by omega)];rfl
  exact⟨(f1.trans f3).cell (cu.cR hv (e 0 (by decide))),(f1.trans f3).cell (cu.cR hv (e 1 (by decide)))⟩
 ·obtain⟨eg,rfl,f4,hL⟩:=c9;exact⟨eg,_,rfl,hL,(f1.trans f3).trans f4,rfl⟩
end
noncomputable abbrev qK:Array Oper:=opsOf (mG 3730)
noncomputable abbrev ZB:List (AA×AV):=[(eD 65 0,i8 (.lit 0)),(eD 65 1,i64 (.lit 0)),(eD 65 2,i64 (.lit 0)),(eD 65 3,i64 (v 20))]
theorem SO:dD 29 qK 0 [] ZB [(5,bz 65)] (.agg [i8 (.lit 0),i64 (.lit 0),i64 (.lit 0),i64 (v 20)]) 23:={}
theorem SP:dD 29 qK 1 [] [] [(4,i64 (v 10))] (i64 (v 10)) 24:={}
theorem SQ:di 29 qK 2 [(24,i64 (v 10))] 25 [i64 (.lit 9),i64 (v 10)] 25:={}
theorem SR:dD 29 qK 3 [] [] [(25,i64 (v 20))] (.agg [i8 (.lit 0),i64 (.lit 0),i64 (.lit 0),i64 (v 20)]) 26:={}
theorem SS:dD 29 qK 4 zJ [] [(23,.agg [i8 (.lit 0),i64 (.lit 0),i64 (.lit 0),i64 (v 20)]),(26,.agg [i8 (.lit 0),i64 (.lit 0),i64 (.lit 0),i64 (v 20)])] (TB) 27:={}
theorem SU:dD 29 qK 5 [] [] [(27,TB)] (FB) 28:={}
def GJ(i:Nat):Nat:=match i with
 |0=>23|1=>24|2=>25|3=>26|4=>27|_=>28
noncomputable abbrev CH:List (Nat×AV):=[(3,.bC 3),(4,i64 (v 10)),(5,bz 65)]
noncomputable abbrev Ql:List (AA×AV):=ZB
noncomputable abbrev Qm:List (BE×Bool):=zJ
noncomputable def xK(ρ:Env)(i:Nat)(u:Value)(w:World):Prop:=match i with
 |0=>u=(.agg [i8 (.lit 0),i64 (.lit 0),i64 (.lit 0),i64 (v 20)]:AV).ev ρ
 |1=>u=(i64 (v 10):AV).ev ρ
 |2=>u=(i64 (v 20):AV).ev ρ
 |3=>u=(.agg [i8 (.lit 0),i64 (.lit 0),i64 (.lit 0),i64 (v 20)]:AV).ev ρ
 |4=>u=(TB:AV).ev ρ
 |_=>u=(FB:AV).ev ρ
theorem EN{ρ:Env}(i:Nat)(u:Value)(w w':World)(h:xK ρ i u w)(f:bA w w'):xK ρ i u w':=by
 unfold xK at h⊢;split at h
 all_goals first|exact h
section
variable {w w0:World}{cs:List Frame}{fr:Frame}
theorem IY{ρ:Env}{i:Nat}{k:List Item}(Mk:ρ.i 10=(i:Int))(Ml:ρ.i 20=((9437185+i:Nat):Int))(pi:i≤4294967296)(iA:cr ρ Qm)(hmem:cw ρ w0 Ql):
  ∀i,i<6->(true)=true->∀(l:List Nat) (w:World) (fr:Frame) (lv:List (Nat×Value)),bA w0 w->FA 80 29 (.inRegion qK (i::l)::k) [] .normal lv fr->(∀x∈told ρ CH,x∈lv)->(∀p∈ja qK i,∃v,(GJ p,v)∈lv∧xK ρ p v w)->
   Goes (G fr cs) w fun g' w'=>∃fr' v,g'=G fr' cs∧bA w w'∧xK ρ i v w'∧FA 80 29 (.inRegion qK l::k) [] .normal (fL (GJ i) v lv) fr':=by
 intro j hi he l w fr lv f hf hb hp;have bm:∀{j:Nat} {q:Nat×Value},(told ρ CH)[j]?=some q->q∈lv:=fun h=>hb _ (ay h);rcases(by omega:j=0∨j=1∨j=2∨j=3∨j=4∨j=5)with rfl|rfl|rfl|rfl|rfl|rfl
 ·exact SO.dc ρ hf (by decide) (cT (bm (j:=2) rfl)) trivial ⟨f.cell hmem.1,f.cell hmem.2.1,f.cell hmem.2.2.1,f.cell hmem.2.2.2.1,trivial⟩ rfl
 ·exact SP.dc ρ hf (by decide) (cT (bm (j:=1) rfl)) trivial trivial rfl
 ·obtain⟨v1,q1,e1⟩:=hp 1 (dy (by kernel_rfl));have e1:v1=(i64 (v 10):AV).ev ρ:=e1;subst e1;exact SQ.dc ρ (Q:=fun u w'=>u=(i64 (v 20)).ev ρ) hf (cT q1) (fun w' f1=>by show dS 25 #[iV 9,iV (ρ.i 10)] w' _;rw[Mk];refine(lI pi).mono fun u w2 hd=>⟨hd.1,?_⟩;rw[hd.2,<-Ml];rfl)
 ·obtain⟨v2,q2,e2⟩:=hp 2 (dy (by kernel_rfl));have e2:v2=(i64 (v 20):AV).ev ρ:=e2;subst e2;exact SR.dc ρ hf (by decide) (cT q2) trivial trivial rfl
 ·obtain⟨v0,q0,e0⟩:=hp 0 (dy (by kernel_rfl));have e0:v0=(.agg [i8 (.lit 0),i64 (.lit 0),i64 (.lit 0),i64 (v 20)]:AV).ev ρ:=e0;subst e0;obtain⟨v3,q3,e3⟩:=hp 3 (dy (by kernel_rfl));have e3:v3=(.agg [i8 (.lit 0),i64 (.lit 0),i64 (.lit 0),i64 (v 20)]:AV).ev ρ:=e3;subst e3;exact SS.dc ρ hf (by decide) (kX q0 q3) ⟨iA.1,trivial⟩ trivial rfl
 ·obtain⟨v4,q4,e4⟩:=hp 4 (dy (by kernel_rfl));have e4:v4=(TB:AV).ev ρ:=e4;subst e4;exact SU.dc ρ hf (by decide) (cT q4) trivial trivial rfl
theorem Mn{ρ:Env}{i:Nat}{k:List Item}{lv:List (Nat×Value)}(Mk:ρ.i 10=(i:Int))(Ml:ρ.i 20=((9437185+i:Nat):Int))(pi:i≤4294967296)(iA:cr ρ Qm)(hmem:cw ρ w Ql)(hl:fT lv (told ρ CH))(hf:FA 80 29 (.code (mG 3730)::k) [] .normal lv fr):
  Goes (G fr cs) w fun g' w'=>∃fr' i_,g'=G fr' cs∧bA w w'∧FA 80 29 (.inRegion qK []::k) [] .normal i_ fr'∧(∀x∈told ρ CH,x∈i_)∧∀i,i<6->(true)=true->∃v,(GJ i,v)∈i_∧xK ρ i v w':=by
 obtain⟨id,hid⟩:=gI (c:=mG 3730) (by kernel_rfl);have hf:=hf.only hl;rw[hid]at hf;refine(gH hf).trans fun g1 w1 hd=>?_;obtain⟨ls,bT,rfl,f1,hs,F1⟩:=hd;refine(ij (b:=told ρ CH) (nm:=GJ) (val:=xK ρ) (early:=fun _=>true) (late:=[]) (n:=6) (w0:=w) (by kernel_rfl) (by kernel_rfl) (by kernel_rfl) (by kernel_rfl) (by kernel_rfl) (by kernel_rfl) (by kernel_rfl) List.Pairwise.nil EN (IY Mk Ml pi iA hmem) ls [] f1 (fun i hi=>by cases hi) hs ⟨_,F1,fun x hx=>hx,fun i hi=>by cases hi⟩).mono fun g2 w2 bX=>?_;obtain⟨cB,lv,h1,h2,h3,h4,h5⟩:=bX;exact⟨cB,lv,h1,h2,h3,h4,h5⟩
end
noncomputable abbrev afi:List Item:=CE
section
variable {w w0:World}{cs:List Frame}{fr:Frame}
theorem CI{B n:Nat}(hlen:n≤4294967000)(hc:∀i,i<n+64->n≤i->w0.cell? ⟨B,i*4,none⟩=some (cY 0)∧w0.cell? ⟨B,i*4+1,none⟩=some (iV 0)∧w0.cell? ⟨B,i*4+2,none⟩=some (iV 0)∧w0.cell? ⟨B,i*4+3,none⟩=some (iV (9437185+i:Nat))):
  ∀(k i:Nat) {w:World} {fr:Frame},i+k=n+64->n≤i->bA w0 w->FA 80 29 afi [] .normal [(3,bU B 0 (n+64) (n+64)),(4,iV i)] fr->
  Goes (G fr cs) w fun g' w'=>∃fr',g'=G fr' cs∧bA w0 w'∧cV 80 fr' w' (.bool true)
 |0,i,w,fr,hi,hni,fw,hf=>by obtain⟨ρ,hρ⟩:∃ρ:Env,ρ=bL [(61,(n+64:Nat)),(62,(n+64:Nat)),(63,0),(10,i)] [(60,B)] []:=⟨_,rfl⟩;refine(afg.go ρ hf (by rw[hρ];rfl) ⟨by rw[hρ];exact decide_eq_false (by show ¬((i:Int)<(((n+64:Nat):Nat):Int));omega),trivial⟩ trivial).trans fun g1 w1 hd=>?_;obtain⟨I,B1,bT,rfl,f1,F1,_⟩:=hd;refine(leave1 SH F1 rfl).mono fun g6 w6 dj=>?_;obtain⟨dJ,rfl,rfl,hL⟩:=dj;exact⟨dJ,rfl,fw.trans f1,hL⟩
 |k+1,i,w,fr,hi,hni,fw,hf=>by
  obtain⟨ρ,hρ⟩:∃ρ:Env,ρ=bL [(61,(n+64:Nat)),(62,(n+64:Nat)),(63,0),(10,i),(20,(9437185+i:Nat))] [(60,B)] []:=⟨_,rfl⟩;refine(afe.go ρ hf (by rw[hρ];rfl) (cg (i:=10) (n:=61) (I:=i) (N:=n+64) (by rw[hρ];rfl) (by rw[hρ];rfl) (by omega)) ⟨by rw[hρ];show w.cell? ⟨B,0+i*4,none⟩=_;rw[aG];exact fw.cell (hc i (by omega) hni).1,by rw[hρ];show w.cell? ⟨B,0+i*4+1,none⟩=_;rw[aG];exact fw.cell (hc i (by omega) hni).2.1,by rw[hρ];show w.cell? ⟨B,0+i*4+2,none⟩=_;rw[aG];exact fw.cell (hc i (by omega) hni).2.2.1,by rw[hρ];show w.cell? ⟨B,0+i*4+3,none⟩=_;rw[aG];exact fw.cell (hc i (by omega) hni).2.2.2,trivial⟩).trans fun g1 w1 hd=>?_;obtain⟨I,B1,bT,rfl,f1,F1,bl,_⟩:=hd;obtain⟨X,eX⟩:∃X,B1 100=X:=⟨_,rfl⟩;rw[hρ]at F1 bl;obtain⟨σ,jN⟩:∃ρ:Env,ρ=bL [(10,i),(20,(9437185+i:Nat))] [(65,B1 100)] [(3,bU B 0 (n+64) (n+64))]:=⟨_,rfl⟩;refine(Mn (ρ:=σ) (i:=i) (by rw[jN];rfl) (by rw[jN];rfl) (by omega) ⟨by rw[jN];exact decide_eq_true rfl,trivial⟩ ⟨by rw[jN];exact bE bl.1.2 (i:=0) rfl,by rw[jN];exact bE bl.1.2 (i:=1) rfl,by rw[jN];exact bE bl.1.2 (i:=2) rfl,by rw[jN];exact bE bl.1.2 (i:=3) rfl,trivial⟩ (by rw[jN];rfl) F1).trans fun g2 w2 bX=>?_;obtain⟨cB,zD,rfl,f2,F2,oQ,kL⟩:=bX;obtain⟨u,q,eu⟩:=kL 5 (by decide) rfl;have eu:u=(FB:AV).ev σ:=eu;subst eu;have lg:=F2.sub (i_:=[(3,bU B 0 (n+64) (n+64)),(4,iV i),(28,.bool false)]) fun x hx=>by
   simp only[aj,az,or_false]at hx;rcases hx with rfl|rfl|rfl
   ·exact oQ _ (by rw[jN];exact ai ..)
   ·exact oQ _ (by rw[jN];exact aa _ (ai ..))
   ·exact q
  refine(aff.go (bL [(10,i)] [] [(3,bU B 0 (n+64) (n+64))]) lg rfl trivial trivial).trans fun g3 w3 cn=>?_;obtain⟨I3,B3,cC,rfl,f3,F3,_⟩:=cn;refine CI hlen hc k (i+1) (by omega) (by omega) (fw.trans (f1.trans (f2.trans f3))) ?_;rw[<-inc (i:=i) (by omega)];exact F3
theorem xL{B:Nat}{l:List Nd}(hv:(cu.vec 77 (l.length+64) (jq l (l.length+64))).at Tryz.prog w B)(hlen:l.length≤4294967000):dS 80 #[bU B 0 l.length (l.length+64)] w fun v w'=>bA w w'∧v=.bool true:=by
 refine cF fun cs=>?_;obtain⟨ρ,hρ⟩:∃ρ:Env,ρ=bL [(51,l.length),(52,(l.length+64:Nat)),(53,0)] [(50,B)] []:=⟨_,rfl⟩;refine(afb.go ρ (cz SG rfl (bU B 0 l.length (l.length+64))) (by rw[hρ];rfl) trivial trivial).trans fun g1 w1 hd=>?_;obtain⟨I,B1,bT,rfl,f1,F1,_⟩:=hd;have fI:FA 80 29 (.inRegion (opsOf (mG 6)) [4,5]::[.code (mG 7)]) [] .normal [(0,bU B 0 l.length (l.length+64)),(6,bU B 0 l.length (l.length+64)),(9,iV (l.length+64:Nat))] bT:=by rw[<-lu hlen];rw[hρ]at F1;exact F1
 refine(afc.go (R:=fun y w'=>y=bU B 0 (l.length+64) (l.length+64)∧w'=w1) (bL [] [] []) fI (by decide) rfl fun tm ie x' e1 e2=>?_).trans fun g2 w2 bX=>?_
 ·unfold execOp;simp only[e1,bF,av,aI];rw[ie 6 _ rfl,ie 9 (iV (l.length+64:Nat)) rfl];exact tw (t:=48) (elem:=77) (size:=4) (by kernel_rfl) (by kernel_rfl) (ax _) (by omega) ⟨_,rfl,rfl,rfl⟩
 obtain⟨cB,y,rfl,⟨rfl,rfl⟩,F2⟩:=bX;refine(afd.go (bL [(51,l.length),(52,(l.length+64:Nat)),(53,0)] [(50,B)] [(5,bU B 0 (l.length+64) (l.length+64))]) F2 rfl trivial trivial).trans fun g3 w3 cn=>?_;obtain⟨I3,B3,cC,rfl,f3,F3,_⟩:=cn;refine(CI (w0:=w3) (n:=l.length) hlen (fun i hi hni=>?_) 64 l.length (by omega) (ax _) (bA.refl _) F3).mono fun g4 w4 c9=>?_
 ·have e:∀r,r<4->(jq l (l.length+64))[i*4+r]?=[cY 0,iV 0,iV 0,iV (9437185+i:Nat)][r]?:=fun r hr=>by
   refine(kD (f:=rK l) (sz:=4) (xC l) (l.length+64) i r hi hr).trans ?_;unfold rK;rw[show l[i]?=none from aM (by omega)];rfl
  exact⟨(f1.trans f3).cell (cu.cR hv (e 0 (by decide))),(f1.trans f3).cell (cu.cR hv (e 1 (by decide))),(f1.trans f3).cell (cu.cR hv (e 2 (by decide))),(f1.trans f3).cell (cu.cR hv (e 3 (by decide)))⟩
 ·obtain⟨eg,rfl,f4,hL⟩:=c9;exact⟨eg,_,rfl,hL,(f1.trans f3).trans f4,rfl⟩
end
noncomputable def SV(l:Nat):Code:=pc (bD Tryz.f57) (pd l)
theorem SW:bP Tryz.prog 57 [.bC 0] .normal=.ok ⟨57,6,c8 57 [.bC 0],[.code (bD Tryz.f57)],[],.run,.normal⟩:=by kernel_rfl
theorem SY:dP 57 6 2:=fun st=>by kernel_rfl
theorem afj:Pc 57 6 [.code (bD Tryz.f57)] ([(0,.agg [ss 1,.bC 7,i64 (v 4)])]) [] [] [] 9 [] [4] [.inRegion (opsOf (SV 6)) [2,3],.code .ret] [.bC 7] []:={}
theorem afk:di 6 (opsOf (SV 6)) 2 [(4,.bC 4)] 80 [.bC 4] 5:={}
theorem afl:Pc 57 6 [.inRegion (opsOf (SV 6)) [3],.code .ret] ([(5,TB)]) [] [] [] 2 [] [2] [.code .ret] [TB] []:={}
section
variable {w:World}
theorem AJ{base:Nat}{x:cH}{ts:Value}(h:jf w base ts x.tree)(hn:x.tree.length≤4294967000):dS 57 #[fy x ts] w fun v w'=>bA w w'∧v=.bool true:=by refine cF fun cs=>?_;refine(afj.go (Go.Proofs.YtmobbajggkjpgaaGreat.SX.jn [(4,x.bY)] [] [(7,ts)] [(1,x.name)]) (cz SW rfl (fy x ts)) rfl trivial trivial).trans fun g1 w1 hd=>?_;obtain⟨I,B,bT,rfl,f1,F1,_⟩:=hd;obtain⟨B0,_,rfl,hv⟩:=h;refine(afk.go (bL [] [] [(4,bU B0 0 x.tree.length (x.tree.length+64))]) (Q:=fun v w'=>v=.bool true) F1 rfl fun w' f=>xL (bM hv (f1.trans f)) hn).trans fun g2 w2 bX=>?_;obtain⟨cB,vv,rfl,f2,rfl,F2⟩:=bX;refine(afl.go (bL [] [] []) F2 rfl trivial trivial).trans fun g3 w3 cn=>?_;obtain⟨I3,B3,cC,rfl,f3,F3,_⟩:=cn;refine(leave1 SY F3 rfl).mono fun g6 w6 dj=>?_;obtain⟨dJ,rfl,rfl,hL⟩:=dj;exact⟨dJ,_,rfl,hL,f1.trans (f2.trans f3),rfl⟩
theorem IZ{B:Nat}{l:List (Int×Int)}(hv:(cu.vec 43 (l.length+64) (j8 l (l.length+64))).at Tryz.prog w B):dY w (bU B 0 l.length (l.length+64)) l:=by
 refine⟨false,B,0,l.length+64,rfl,(fun h=>by cases h),fun _=>by omega,fun i e hi=>?_⟩;have hl:=(aq.1 hi).1;have g:∀r,r<2->(j8 l (l.length+64))[i*2+r]?=(gW e)[r]?:=fun r hr=>by refine(kD (f:=tj l) (sz:=2) (xE l) (l.length+64) i r (by omega) hr).trans ?_;unfold tj;rw[hi]
 rw[aG];exact⟨cu.cR hv (g 0 (by decide)),cu.cR hv (g 1 (by decide))⟩
end
noncomputable def iP(l:Nat):Code:=pc (bD Tryz.f34) (pd l)
theorem SZ:bP Tryz.prog 34 [.bC 0] .normal=.ok ⟨34,53,c8 34 [.bC 0],[.code (bD Tryz.f34)],[],.run,.normal⟩:=by kernel_rfl
theorem S0:dP 34 53 2:=fun st=>by kernel_rfl
theorem afm:Pc 34 53 [.code (bD Tryz.f34)] ([(0,sA 50 53 51 52)]) [] [] [] 10 [] [0,7,10] [.inRegion (opsOf (iP 6)) [4,5],.code (iP 7)] [sA 50 53 51 52,sA 50 53 51 52,i64 (.op .add .i64 (.tn (v 51)) (.lit 64))] []:={}
theorem afn:jO 53 (opsOf (iP 6)) 4 [] (.slice 22 (.tmp 7) none (some (.tmp 10)) none) 22 (some 11):={}
noncomputable abbrev CJ:List Item:=[.code (iP 116),.inLoop (iP 116),.inBlock 0,.code (iP 15)]
theorem afo:Pc 34 53 [.inRegion (opsOf (iP 6)) [5],.code (iP 7)] ([(0,sA 50 53 51 52),(11,.bC 5)]) [] [] [] 11 [] [0,3,4] CJ [sA 50 53 51 52,.bC 5,i64 (.tn (v 51))] []:={}
theorem afp:Pc 34 53 CJ ([(0,.bC 0),(3,sA 60 63 61 62),(4,i64 (v 10))]) (fN 10 61) [(eB 60 63 10 3,.str ⟨#[]⟩),(eA 60 63 10 3 1,cj),(eA 60 63 10 3 2,i64 (v 20))] [] 22 [100] [0,3,4,5] [.code (iP 3730),.code (iP 3731),.inBlock 1,.code (iP 467),.inLoop (iP 116),.inBlock 0,.code (iP 15)] [.bC 0,sA 60 63 61 62,i64 (v 10),bz 100] [(100,.cells [.str ⟨#[]⟩,cj,i64 (v 20)] 50)]:={}
theorem afq:Pc 34 53 [.inRegion (opsOf (iP 3730)) [],.code (iP 3731),.inBlock 1,.code (iP 467),.inLoop (iP 116),.inBlock 0,.code (iP 15)] ([(0,.bC 0),(3,.bC 3),(4,i64 (v 10)),(40,FB)]) [] [] [] 10 [] [0,3,4] CJ [.bC 0,.bC 3,i64 (.op .add .i64 (v 10) (.lit 1))] []:={}
noncomputable abbrev CK:List Item:=[.code (iP 244),.inLoop (iP 244),.inBlock 2,.code (iP 31)]
theorem afr:Pc 34 53 CJ ([(0,.bC 0),(3,sA 60 63 61 62),(4,i64 (v 10))]) tc [] [] 17 [] [0,6] CK [.bC 0,i64 (.lit 0)] []:={}
theorem afs:Pc 34 53 CK ([(0,sA 50 53 51 52),(6,i64 (v 10))]) (fN 10 51) Sn [] 18 [] [0,6,50] [.inRegion (opsOf (iP 3912)) [4,5],.code (iP 3913),.inBlock 3,.code (iP 979),.inLoop (iP 244),.inBlock 2,.code (iP 31)] [sA 50 53 51 52,i64 (v 10),.agg [ss 1,.bC 7,i64 (v 9)]] []:={}
theorem aft:di 53 (opsOf (iP 3912)) 4 [(50,.bC 50)] 57 [.bC 50] 51:={}
theorem afu:Pc 34 53 [.inRegion (opsOf (iP 3912)) [5],.code (iP 3913),.inBlock 3,.code (iP 979),.inLoop (iP 244),.inBlock 2,.code (iP 31)] ([(0,.bC 0),(6,i64 (v 10)),(51,TB)]) [] [] [] 11 [] [0,6] CK [.bC 0,i64 (.op .add .i64 (v 10) (.lit 1))] []:={}
theorem afv:Pc 34 53 CK ([(0,sA 50 53 51 52),(6,i64 (v 10))]) Ce [] [] 14 [] [2] [.code .ret] [TB] []:={}
noncomputable abbrev jr:Array Oper:=opsOf (iP 3730)
theorem S1:dD 53 jr 0 [] [] [(5,bz 65)] (.ptr (some (eD 65 2))) 24:={}
theorem S2:dD 53 jr 1 [] [(eD 65 2,i64 (v 20))] [(24,.ptr (some (eD 65 2)))] (i64 (v 20)) 25:={}
theorem S3:dD 53 jr 2 [] [] [(4,i64 (v 10))] (i64 (v 10)) 26:={}
theorem S4:di 53 jr 3 [(26,i64 (v 10))] 25 [i64 (.lit 9),i64 (v 10)] 27:={}
theorem S5:dD 53 jr 4 zJ [] [(25,i64 (v 20)),(27,i64 (v 20))] (TB) 28:={}
theorem S6:dD 53 jr 5 [] [] [(28,TB)] (TB) 29:={}
theorem S7:dD 53 jr 6 [] [] [(29,TB),(5,bz 65)] (bz 65) 30:={}
theorem S8:dD 53 jr 7 [] [(eD 65 0,.str ⟨#[]⟩)] [(29,TB),(30,bz 65)] (.str ⟨#[]⟩) 31:={}
theorem S9:dD 53 jr 8 [] [] [(29,TB),(31,.str ⟨#[]⟩)] (TB) 32:={}
theorem S_:dD 53 jr 9 [] [] [(29,TB),(32,TB)] (TB) 33:={}
theorem OQ:dD 53 jr 10 [] [] [(33,TB)] (TB) 34:={}
theorem OR:dD 53 jr 11 [] [] [(34,TB),(5,bz 65)] (.ptr (some (eD 65 1))) 35:={}
theorem OS:dD 53 jr 12 [] [(eD 65 1,cj)] [(34,TB),(35,.ptr (some (eD 65 1)))] (cj) 36:={}
theorem OT:dD 53 jr 13 [] [] [(34,TB),(36,cj)] (i64 (.lit 0)) 37:={}
theorem OU:dD 53 jr 14 [] [] [(34,TB),(37,i64 (.lit 0))] (TB) 38:={}
theorem OV:dD 53 jr 15 [] [] [(34,TB),(38,TB)] (TB) 39:={}
theorem OW:dD 53 jr 16 [] [] [(39,TB)] (FB) 40:={}
def GK(i:Nat):Nat:=match i with
 |0=>24|1=>25|2=>26|3=>27|4=>28|5=>29|6=>30|7=>31|8=>32|9=>33|10=>34|11=>35|12=>36|13=>37|14=>38|15=>39|_=>40
noncomputable abbrev CL:List (Nat×AV):=[(0,.bC 0),(3,.bC 3),(4,i64 (v 10)),(5,bz 65)]
noncomputable abbrev Qn:List (AA×AV):=[(eD 65 0,.str ⟨#[]⟩),(eD 65 1,cj),(eD 65 2,i64 (v 20))]
noncomputable abbrev Qo:List (BE×Bool):=zJ
noncomputable def xM(ρ:Env)(i:Nat)(u:Value)(w:World):Prop:=match i with
 |0=>u=(.ptr (some (eD 65 2)):AV).ev ρ
 |1=>u=(i64 (v 20):AV).ev ρ
 |2=>u=(i64 (v 10):AV).ev ρ
 |3=>u=(i64 (v 20):AV).ev ρ
 |4=>u=(TB:AV).ev ρ
 |5=>u=(TB:AV).ev ρ
 |6=>u=(bz 65:AV).ev ρ
 |7=>u=(.str ⟨#[]⟩:AV).ev ρ
 |8=>u=(TB:AV).ev ρ
 |9=>u=(TB:AV).ev ρ
 |10=>u=(TB:AV).ev ρ
 |11=>u=(.ptr (some (eD 65 1)):AV).ev ρ
 |12=>u=(cj:AV).ev ρ
 |13=>u=(i64 (.lit 0):AV).ev ρ
 |14=>u=(TB:AV).ev ρ
 |15=>u=(TB:AV).ev ρ
 |_=>u=(FB:AV).ev ρ
theorem EO{ρ:Env}(i:Nat)(u:Value)(w w':World)(h:xM ρ i u w)(f:bA w w'):xM ρ i u w':=by
 unfold xM at h⊢;split at h
 all_goals first|exact h
section
variable {w w0:World}{cs:List Frame}{fr:Frame}
theorem I6{ρ:Env}{i:Nat}{k:List Item}(Mk:ρ.i 10=(i:Int))(Ml:ρ.i 20=((9437185+i:Nat):Int))(pi:i≤4294967296)(iA:cr ρ Qo)(hmem:cw ρ w0 Qn):
  ∀i,i<17->(true)=true->∀(l:List Nat) (w:World) (fr:Frame) (lv:List (Nat×Value)),bA w0 w->FA 34 53 (.inRegion jr (i::l)::k) [] .normal lv fr->(∀x∈told ρ CL,x∈lv)->(∀p∈ja jr i,∃v,(GK p,v)∈lv∧xM ρ p v w)->
   Goes (G fr cs) w fun g' w'=>∃fr' v,g'=G fr' cs∧bA w w'∧xM ρ i v w'∧FA 34 53 (.inRegion jr l::k) [] .normal (fL (GK i) v lv) fr':=by
 intro j hi he l w fr lv f hf hb hp;have bm:∀{j:Nat} {q:Nat×Value},(told ρ CL)[j]?=some q->q∈lv:=fun h=>hb _ (ay h);rcases(by omega:j=0∨j=1∨j=2∨j=3∨j=4∨j=5∨j=6∨j=7∨j=8∨j=9∨j=10∨j=11∨j=12∨j=13∨j=14∨j=15∨j=16)with rfl|rfl|rfl|rfl|rfl|rfl|rfl|rfl|rfl|rfl|rfl|rfl|rfl|rfl|rfl|rfl|rfl
 ·exact S1.dc ρ hf (by decide) (cT (bm (j:=3) rfl)) trivial trivial rfl
 ·obtain⟨v0,q0,e0⟩:=hp 0 (dy (by kernel_rfl));have e0:v0=(.ptr (some (eD 65 2)):AV).ev ρ:=e0;subst e0;exact S2.dc ρ hf (by decide) (cT q0) trivial ⟨f.cell hmem.2.2.1,trivial⟩ rfl
 ·exact S3.dc ρ hf (by decide) (cT (bm (j:=2) rfl)) trivial trivial rfl
 ·obtain⟨v2,q2,e2⟩:=hp 2 (dy (by kernel_rfl));have e2:v2=(i64 (v 10):AV).ev ρ:=e2;subst e2;exact S4.dc ρ (Q:=fun u w'=>u=(i64 (v 20)).ev ρ) hf (cT q2) (fun w' f1=>by show dS 25 #[iV 9,iV (ρ.i 10)] w' _;rw[Mk];refine(lI pi).mono fun u w2 hd=>⟨hd.1,?_⟩;rw[hd.2,<-Ml];rfl)
 ·obtain⟨v1,q1,e1⟩:=hp 1 (dy (by kernel_rfl));have e1:v1=(i64 (v 20):AV).ev ρ:=e1;subst e1;obtain⟨v3,q3,e3⟩:=hp 3 (dy (by kernel_rfl));have e3:v3=(i64 (v 20):AV).ev ρ:=e3;subst e3;exact S5.dc ρ hf (by decide) (kX q1 q3) ⟨iA.1,trivial⟩ trivial rfl
 ·obtain⟨v4,q4,e4⟩:=hp 4 (dy (by kernel_rfl));have e4:v4=(TB:AV).ev ρ:=e4;subst e4;exact S6.dc ρ hf (by decide) (cT q4) trivial trivial rfl
 ·obtain⟨v5,q5,e5⟩:=hp 5 (dy (by kernel_rfl));have e5:v5=(TB:AV).ev ρ:=e5;subst e5;exact S7.dc ρ hf (by decide) (kX q5 (bm (j:=3) rfl)) trivial trivial rfl
 ·obtain⟨v5,q5,e5⟩:=hp 5 (dy (by kernel_rfl));have e5:v5=(TB:AV).ev ρ:=e5;subst e5;obtain⟨v6,q6,e6⟩:=hp 6 (dy (by kernel_rfl));have e6:v6=(bz 65:AV).ev ρ:=e6;subst e6;exact S8.dc ρ hf (by decide) (kX q5 q6) trivial ⟨f.cell hmem.1,trivial⟩ rfl
 ·obtain⟨v5,q5,e5⟩:=hp 5 (dy (by kernel_rfl));have e5:v5=(TB:AV).ev ρ:=e5;subst e5;obtain⟨v7,q7,e7⟩:=hp 7 (dy (by kernel_rfl));have e7:v7=(.str ⟨#[]⟩:AV).ev ρ:=e7;subst e7;exact S9.dc ρ hf (by decide) (kX q5 q7) trivial trivial rfl
 ·obtain⟨v5,q5,e5⟩:=hp 5 (dy (by kernel_rfl));have e5:v5=(TB:AV).ev ρ:=e5;subst e5;obtain⟨v8,q8,e8⟩:=hp 8 (dy (by kernel_rfl));have e8:v8=(TB:AV).ev ρ:=e8;subst e8;exact S_.dc ρ hf (by decide) (kX q5 q8) trivial trivial rfl
 ·obtain⟨v9,q9,e9⟩:=hp 9 (dy (by kernel_rfl));have e9:v9=(TB:AV).ev ρ:=e9;subst e9;exact OQ.dc ρ hf (by decide) (cT q9) trivial trivial rfl
 ·obtain⟨v10,Ez,pO⟩:=hp 10 (dy (by kernel_rfl));have pO:v10=(TB:AV).ev ρ:=pO;subst pO;exact OR.dc ρ hf (by decide) (kX Ez (bm (j:=3) rfl)) trivial trivial rfl
 ·obtain⟨v10,Ez,pO⟩:=hp 10 (dy (by kernel_rfl));have pO:v10=(TB:AV).ev ρ:=pO;subst pO;obtain⟨v11,kK,yD⟩:=hp 11 (dy (by kernel_rfl));have yD:v11=(.ptr (some (eD 65 1)):AV).ev ρ:=yD;subst yD;exact OS.dc ρ hf (by decide) (kX Ez kK) trivial ⟨f.cell hmem.2.1,trivial⟩ rfl
 ·obtain⟨v10,Ez,pO⟩:=hp 10 (dy (by kernel_rfl));have pO:v10=(TB:AV).ev ρ:=pO;subst pO;obtain⟨R1,rI,Ar⟩:=hp 12 (dy (by kernel_rfl));have Ar:R1=(cj:AV).ev ρ:=Ar;subst Ar;exact OT.dc ρ hf (by decide) (kX Ez rI) trivial trivial rfl
 ·obtain⟨v10,Ez,pO⟩:=hp 10 (dy (by kernel_rfl));have pO:v10=(TB:AV).ev ρ:=pO;subst pO;obtain⟨R3,yG,Aq⟩:=hp 13 (dy (by kernel_rfl));have Aq:R3=(i64 (.lit 0):AV).ev ρ:=Aq;subst Aq;exact OU.dc ρ hf (by decide) (kX Ez yG) trivial trivial rfl
 ·obtain⟨v10,Ez,pO⟩:=hp 10 (dy (by kernel_rfl));have pO:v10=(TB:AV).ev ρ:=pO;subst pO;obtain⟨v14,q14,Lc⟩:=hp 14 (dy (by kernel_rfl));have Lc:v14=(TB:AV).ev ρ:=Lc;subst Lc;exact OV.dc ρ hf (by decide) (kX Ez q14) trivial trivial rfl
 ·obtain⟨v15,q15,Ld⟩:=hp 15 (dy (by kernel_rfl));have Ld:v15=(TB:AV).ev ρ:=Ld;subst Ld;exact OW.dc ρ hf (by decide) (cT q15) trivial trivial rfl
theorem Mo{ρ:Env}{i:Nat}{k:List Item}{lv:List (Nat×Value)}(Mk:ρ.i 10=(i:Int))(Ml:ρ.i 20=((9437185+i:Nat):Int))(pi:i≤4294967296)(iA:cr ρ Qo)(hmem:cw ρ w Qn)(hl:fT lv (told ρ CL))(hf:FA 34 53 (.code (iP 3730)::k) [] .normal lv fr):
  Goes (G fr cs) w fun g' w'=>∃fr' i_,g'=G fr' cs∧bA w w'∧FA 34 53 (.inRegion jr []::k) [] .normal i_ fr'∧(∀x∈told ρ CL,x∈i_)∧∀i,i<17->(true)=true->∃v,(GK i,v)∈i_∧xM ρ i v w':=by
 obtain⟨id,hid⟩:=gI (c:=iP 3730) (by kernel_rfl);have hf:=hf.only hl;rw[hid]at hf;refine(gH hf).trans fun g1 w1 hd=>?_;obtain⟨ls,bT,rfl,f1,hs,F1⟩:=hd;refine(ij (b:=told ρ CL) (nm:=GK) (val:=xM ρ) (early:=fun _=>true) (late:=[]) (n:=17) (w0:=w) (by kernel_rfl) (by kernel_rfl) (by kernel_rfl) (by kernel_rfl) (by kernel_rfl) (by kernel_rfl) (by kernel_rfl) List.Pairwise.nil EO (I6 Mk Ml pi iA hmem) ls [] f1 (fun i hi=>by cases hi) hs ⟨_,F1,fun x hx=>hx,fun i hi=>by cases hi⟩).mono fun g2 w2 bX=>?_;obtain⟨cB,lv,h1,h2,h3,h4,h5⟩:=bX;exact⟨cB,lv,h1,h2,h3,h4,h5⟩
end
noncomputable abbrev SlH:List Item:=CJ
noncomputable abbrev SlK:List Item:=CK
section
variable {w w0:World}{cs:List Frame}{fr:Frame}
theorem CM{B n:Nat}{V:Value}(hlen:n≤4294967000)(hc:∀i,i<n+64->n≤i->w0.cell? ⟨B,i*3,none⟩=some (.string ⟨#[]⟩)∧w0.cell? ⟨B,i*3+1,none⟩=some eS∧w0.cell? ⟨B,i*3+2,none⟩=some (iV (9437185+i:Nat))):
  ∀(k i:Nat) {w:World} {fr:Frame},i+k=n+64->n≤i->bA w0 w->FA 34 53 SlH [] .normal [(0,V),(3,bU B 0 (n+64) (n+64)),(4,iV i)] fr->
  Goes (G fr cs) w fun g' w'=>∃fr',g'=G fr' cs∧bA w0 w'∧FA 34 53 SlK [] .normal [(0,V),(6,iV (0:Nat))] fr'
 |0,i,w,fr,hi,hni,fw,hf=>by refine(afr.go (bL [(61,(n+64:Nat)),(62,(n+64:Nat)),(63,0),(10,i)] [(60,B)] [(0,V)]) hf rfl ⟨decide_eq_false (by show ¬((i:Int)<(((n+64:Nat):Nat):Int));omega),trivial⟩ trivial).mono fun g1 w1 hd=>?_;obtain⟨I,B1,bT,rfl,f1,F1,_⟩:=hd;exact⟨bT,rfl,fw.trans f1,F1⟩
 |k+1,i,w,fr,hi,hni,fw,hf=>by
  obtain⟨ρ,hρ⟩:∃ρ:Env,ρ=bL [(61,(n+64:Nat)),(62,(n+64:Nat)),(63,0),(10,i),(20,(9437185+i:Nat))] [(60,B)] [(0,V)]:=⟨_,rfl⟩;obtain⟨c0,c1,c2⟩:=hc i (by omega) hni;refine(afp.go ρ hf (by rw[hρ];rfl) (cg (i:=10) (n:=61) (I:=i) (N:=n+64) (by rw[hρ];rfl) (by rw[hρ];rfl) (by omega)) ⟨by rw[hρ];show w.cell? ⟨B,0+i*3,none⟩=_;rw[aG];exact fw.cell c0,by rw[hρ];show w.cell? ⟨B,0+i*3+1,none⟩=_;rw[aG];exact fw.cell c1,by rw[hρ];show w.cell? ⟨B,0+i*3+2,none⟩=_;rw[aG];exact fw.cell c2,trivial⟩).trans fun g1 w1 hd=>?_;obtain⟨I,B1,bT,rfl,f1,F1,bl,_⟩:=hd;rw[hρ]at F1 bl;obtain⟨σ,jN⟩:∃ρ:Env,ρ=bL [(10,i),(20,(9437185+i:Nat))] [(65,B1 100)] [(0,V),(3,bU B 0 (n+64) (n+64))]:=⟨_,rfl⟩;refine(Mo (ρ:=σ) (i:=i) (by rw[jN];rfl) (by rw[jN];rfl) (by omega) ⟨by rw[jN];exact decide_eq_true rfl,trivial⟩ ⟨by rw[jN];exact bE bl.1.2 (i:=0) rfl,by rw[jN];exact bE bl.1.2 (i:=1) rfl,by rw[jN];exact bE bl.1.2 (i:=2) rfl,trivial⟩ (by rw[jN];rfl) F1).trans fun g2 w2 bX=>?_;obtain⟨cB,zD,rfl,f2,F2,oQ,kL⟩:=bX;obtain⟨u,q,eu⟩:=kL 16 (by decide) rfl;have eu:u=(FB:AV).ev σ:=eu;subst eu;have lg:=F2.sub (i_:=[(0,V),(3,bU B 0 (n+64) (n+64)),(4,iV i),(40,.bool false)]) fun x hx=>by
   simp only[aj,az,or_false]at hx;rcases hx with rfl|rfl|rfl|rfl
   ·exact oQ _ (by rw[jN];exact ai ..)
   ·exact oQ _ (by rw[jN];exact aa _ (ai ..))
   ·exact oQ _ (by rw[jN];exact aa _ (aa _ (ai ..)))
   ·exact q
  refine(afq.go (bL [(10,i)] [] [(0,V),(3,bU B 0 (n+64) (n+64))]) lg rfl trivial trivial).trans fun g3 w3 cn=>?_;obtain⟨I3,B3,cC,rfl,f3,F3,_⟩:=cn;refine CM hlen hc k (i+1) (by omega) (by omega) (fw.trans (f1.trans (f2.trans f3))) ?_;rw[<-inc (i:=i) (by omega)];exact F3
theorem CN{B base:Nat}{L:List cH}{ps:List (cH×Value)}(hlen:L.length≤4294967000)(ji:∀x∈L,x.tree.length≤4294967000):
  ∀(k i:Nat) {w:World} {fr:Frame},i+k=L.length->tu w B L (L.length+64) ps->FA 34 53 SlK [] .normal [(0,bU B 0 L.length (L.length+64)),(6,iV i)] fr->
  Goes (G fr cs) w fun g' w'=>∃fr',g'=G fr' cs∧bA w w'∧cV 34 fr' w' (.bool true)
 |0,i,w,fr,hi,H,hf=>by refine(afv.go (bL [(51,L.length),(52,(L.length+64:Nat)),(53,0),(10,i)] [(50,B)] []) hf rfl ⟨decide_eq_false (by show ¬((i:Int)<((L.length:Nat):Int));omega),trivial⟩ trivial).trans fun g1 w1 hd=>?_;obtain⟨I,B1,bT,rfl,f1,F1,_⟩:=hd;refine(leave1 S0 F1 rfl).mono fun g6 w6 dj=>?_;obtain⟨dJ,rfl,rfl,hL⟩:=dj;exact⟨dJ,rfl,f1,hL⟩
 |k+1,i,w,fr,hi,H,hf=>by obtain⟨x,hx⟩:∃x,L[i]?=some x:=⟨_,af (by omega)⟩;obtain⟨p,hp⟩:∃p,ps[i]?=some p:=⟨_,af (by rw[H.len];omega)⟩;obtain⟨rfl,hw⟩:=H.real i x p hx hp;have e:=lJ hp;obtain⟨ρ,hρ⟩:∃ρ:Env,ρ=Go.Proofs.YtmobbajggkjpgaaGreat.SX.jn [(51,L.length),(52,(L.length+64:Nat)),(53,0),(10,i),(9,p.1.bY)] [(50,B)] [(7,p.2)] [(1,p.1.name)]:=⟨_,rfl⟩;refine(afs.go ρ hf (by rw[hρ];rfl) (cg (i:=10) (n:=51) (I:=i) (N:=L.length) (by rw[hρ];rfl) (by rw[hρ];rfl) (by omega)) ⟨by rw[hρ];show w.cell? ⟨B,0+i*3,none⟩=_;rw[aG];exact cu.cR H.vec (e 0 (by decide)),by rw[hρ];show w.cell? ⟨B,0+i*3+1,none⟩=_;rw[aG];exact cu.cR H.vec (e 1 (by decide)),by rw[hρ];show w.cell? ⟨B,0+i*3+2,none⟩=_;rw[aG];exact cu.cR H.vec (e 2 (by decide)),trivial⟩).trans fun g1 w1 hd=>?_;obtain⟨I,B1,bT,rfl,f1,F1,_⟩:=hd;rw[hρ]at F1;refine(aft.go (bL [] [] [(50,fy p.1 p.2)]) (Q:=fun v w'=>v=.bool true) F1 rfl fun w' f=>AJ (hw.keep (f1.trans f)) (ji _ (ay hx))).trans fun g2 w2 bX=>?_;obtain⟨cB,vv,rfl,f2,rfl,F2⟩:=bX;refine(afu.go (bL [(10,i)] [] [(0,bU B 0 L.length (L.length+64))]) F2 rfl trivial trivial).trans fun g3 w3 cn=>?_;obtain⟨I3,B3,cC,rfl,f3,F3,_⟩:=cn;have f13:=f1.trans (f2.trans f3);refine(CN (base:=base) hlen ji k (i+1) (by omega) (H.keep f13) (by rw[<-inc (i:=i) (by omega)];exact F3)).mono fun g4 w4 c9=>?_;obtain⟨eg,rfl,f4,hL⟩:=c9;exact⟨eg,rfl,f13.trans f4,hL⟩
theorem yJ{base:Nat}{s:Value}{L:List cH}(h:j9 w base s L)(hlen:L.length≤4294967000)(ji:∀x∈L,x.tree.length≤4294967000):dS 34 #[s] w fun v w'=>bA w w'∧v=.bool true:=by
 obtain⟨B,ps,_,rfl,H⟩:=h;refine cF fun cs=>?_;obtain⟨ρ,hρ⟩:∃ρ:Env,ρ=bL [(51,L.length),(52,(L.length+64:Nat)),(53,0)] [(50,B)] []:=⟨_,rfl⟩;refine(afm.go ρ (cz SZ rfl (bU B 0 L.length (L.length+64))) (by rw[hρ];rfl) trivial trivial).trans fun g1 w1 hd=>?_;obtain⟨I,B1,bT,rfl,f1,F1,_⟩:=hd;rw[hρ]at F1;refine(afn.go (R:=fun y w'=>y=bU B 0 (L.length+64) (L.length+64)∧w'=w1) (bL [] [] []) F1 (by decide) rfl fun tm ie x' e1 e2=>?_).trans fun g2 w2 bX=>?_
 ·unfold execOp;simp only[e1,bF,av,aI];rw[ie 7 _ rfl,ie 10 (iV (iF .add .i64 (L.length:Int) 64)) rfl,lu hlen];exact tw (A:=B) (off:=0) (n:=L.length) (c:=L.length+64) (k:=L.length+64) (t:=22) (elem:=50) (size:=3) (by kernel_rfl) (by kernel_rfl) (ax _) (by omega) ⟨_,rfl,rfl,rfl⟩
 obtain⟨cB,y,rfl,⟨rfl,rfl⟩,F2⟩:=bX;refine(afo.go (bL [(51,L.length),(52,(L.length+64:Nat)),(53,0)] [(50,B)] [(5,bU B 0 (L.length+64) (L.length+64))]) F2 rfl trivial trivial).trans fun g3 w3 cn=>?_;obtain⟨I3,B3,cC,rfl,f3,F3,_⟩:=cn;refine(CM (w0:=w3) (n:=L.length) (V:=bU B 0 L.length (L.length+64)) hlen (fun i hi hni=>?_) 64 L.length (by omega) (ax _) (bA.refl _) F3).trans fun g4 w4 c9=>?_
 ·obtain⟨p,hp⟩:∃p,ps[i]?=some p:=⟨_,af (by rw[H.len];omega)⟩;have e:=lJ hp;obtain rfl:=H.mark i p (aM (by omega)) hp;have hv:=bM H.vec (f1.trans f3);exact⟨cu.cR hv (e 0 (by decide)),cu.cR hv (e 1 (by decide)),cu.cR hv (e 2 (by decide))⟩
 ·obtain⟨eg,rfl,f4,F4⟩:=c9;have f14:=(f1.trans f3).trans f4;refine(CN (base:=0) hlen ji L.length 0 (by omega) (H.keep f14) F4).mono fun g5 w5 d_=>?_;obtain⟨gh,rfl,f5,hL⟩:=d_;exact⟨gh,_,rfl,hL,f14.trans f5,rfl⟩
end
noncomputable def I8(l:Nat):Code:=pc (bD Tryz.f14) (pd l)
theorem Ta:bP Tryz.prog 14 [.bC 0] .normal=.ok ⟨14,11,c8 14 [.bC 0],[.code (bD Tryz.f14)],[],.run,.normal⟩:=by kernel_rfl
theorem Tb:dP 14 11 2:=fun st=>by kernel_rfl
theorem afw:Pc 14 11 [.code (bD Tryz.f14)] ([(0,.agg [.bC 8,.bC 9])]) [] [] [] 9 [100] [1,4] [.inRegion (opsOf (I8 6)) [2,3,4,5,6,7,8],.code .ret] [bz 100,.bC 8] [(100,.cells [.bC 8,.bC 9] 25)]:={}
theorem afx:di 11 (opsOf (I8 6)) 2 [(4,.bC 4)] 34 [.bC 4] 5:={}
theorem afy:Pc 14 11 [.inRegion (opsOf (I8 6)) [3,4,5,6,7,8],.code .ret] ([(1,bz 64),(5,TB)]) [] [(eD 64 1,.bC 9)] [] 3 [] [6,8] [.inRegion (opsOf (I8 6)) [6,7,8],.code .ret] [TB,.bC 9] []:={}
theorem afz:di 11 (opsOf (I8 6)) 6 [(6,TB),(8,.bC 8)] 35 [.bC 8] 9:={}
theorem afA:Pc 14 11 [.inRegion (opsOf (I8 6)) [7,8],.code .ret] ([(6,TB),(9,TB)]) [] [] [] 3 [] [2] [.code .ret] [TB] []:={}
section
variable {w:World}
theorem yK{base:Nat}{ls os:Value}{F:gU}(hl:j9 w base ls F.lets)(ho:j_ w base os F.outs)(hlen:F.lets.length≤4294967000)(ji:∀x∈F.lets,x.tree.length≤4294967000)(Sr:F.outs.length≤4294967000):dS 14 #[.agg #[ls,os]] w fun v w'=>bA w w'∧v=.bool true:=by
 refine cF fun cs=>?_;refine(afw.go (bL [] [] [(8,ls),(9,os)]) (cz Ta rfl (.agg #[ls,os])) rfl trivial trivial).trans fun g1 w1 hd=>?_;obtain⟨I,B,bT,rfl,f1,F1,bl,_⟩:=hd;obtain⟨X,eX⟩:∃X,B 100=X:=⟨_,rfl⟩;have hX:(cu.obj 25 [ls,os]).at Tryz.prog w1 X:=by rw[<-eX];exact bl.1.2
 have fI:=F1.only (l:=[(1,bI X),(4,ls)]) (by rw[<-eX];rfl);refine(afx.go (bL [] [] [(4,ls)]) (Q:=fun v w'=>v=.bool true) fI rfl fun w' f=>yJ (hl.keep (f1.trans f)) hlen ji).trans fun g2 w2 bX=>?_;obtain⟨cB,vv,rfl,f2,rfl,F2⟩:=bX;refine(afy.go (bL [] [(64,X)] [(9,os)]) F2 rfl trivial ⟨f2.cell (bE hX (i:=1) rfl),trivial⟩).trans fun g3 w3 cn=>?_;obtain⟨I3,B3,cC,rfl,f3,F3,_⟩:=cn;have f13:=f1.trans (f2.trans f3);refine(afz.go (bL [] [] [(8,os)]) (Q:=fun v w'=>v=.bool true) F3 rfl fun w' f=>yH (ho.keep (f13.trans f)) Sr).trans fun g4 w4 c9=>?_;obtain⟨eg,vv,rfl,f4,rfl,F4⟩:=c9;refine(afA.go (bL [] [] []) F4 rfl trivial trivial).trans fun g5 w5 d_=>?_;obtain⟨I5,B5,gh,rfl,f5,F5,_⟩:=d_;refine(leave1 Tb F5 rfl).mono fun g6 w6 dj=>?_;obtain⟨dJ,rfl,rfl,hL⟩:=dj;exact⟨dJ,_,rfl,hL,f13.trans (f4.trans f5),rfl⟩
end
noncomputable def I_(l:Nat):Code:=pc (bD Tryz.f30) (pd l)
theorem Tc:bP Tryz.prog 30 [.bC 0,.bC 1] .normal=.ok ⟨30,25,c8 30 [.bC 0,.bC 1],[.code (bD Tryz.f30)],[],.run,.normal⟩:=by kernel_rfl
theorem EP:dP 30 25 4:=fun st=>by kernel_rfl
noncomputable abbrev xN:List Item:=[.code (I_ 52),.inLoop (I_ 52),.inBlock 0,.code (I_ 7)]
theorem afB(z:Bool):Pc 30 25 [.code (bD Tryz.f30)] ([(0,cG z 50 53 51 52),(1,i64 (v 30))]) [] [] [] 11 [] [0,1,5] xN [cG z 50 53 51 52,i64 (v 30),i64 (.lit 0)] []:=by cases z<;>exact{}
theorem afC:Pc 30 25 xN ([(0,sA 50 53 51 52),(1,i64 (v 30)),(5,i64 (v 10))]) (((.cmp .lss (v 10) (v 30)),true)::(fN 10 51++Yg)) Cs [] 37 [] [0,1,5] xN [sA 50 53 51 52,i64 (v 30),i64 (.op .add .i64 (v 10) (.lit 1))] []:={}
noncomputable abbrev ZC:List Item:=[.code .ret,.inBlock 1,.code (I_ 211),.inLoop (I_ 52),.inBlock 0,.code (I_ 7)]
theorem afD:Pc 30 25 xN ([(0,sA 50 53 51 52),(1,i64 (v 30)),(5,i64 (v 10))]) (((.cmp .lss (v 10) (v 30)),true)::(fN 10 51++[((.cmp .lss (v 11) (.lit 1)),true)])) Cs [] 33 [] [4] ZC [FB] []:={}
theorem afE:Pc 30 25 xN ([(0,sA 50 53 51 52),(1,i64 (v 30)),(5,i64 (v 10))]) (((.cmp .lss (v 10) (v 30)),true)::(fN 10 51++Yf)) Cs [] 33 [] [4] ZC [FB] []:={}
theorem afF(z:Bool):Pc 30 25 xN ([(0,cG z 50 53 51 52),(1,i64 (v 30)),(5,i64 (v 10))]) [((.cmp .lss (v 10) (v 30)),false)] [] [] 13 [] [4] [.code .ret] [TB] []:=by cases z<;>exact{}
noncomputable abbrev KnH:List Item:=xN
section
variable {w w0:World}{cs:List Frame}
theorem GL{z:Bool}{A o c n:Nat}{E:List (Int×Int)}(hz:z=true->E=[])(cL:∀i e,E[i]?=some e->w0.cell? ⟨A,o+i*2,none⟩=some (cY e.1)∧w0.cell? ⟨A,o+i*2+1,none⟩=some (iV e.2))(hlen:E.length≤4294967000)(hn:n≤E.length):
  ∀(k i:Nat) {w:World} {fr:Frame},i+k=n->bA w0 w->(E.take i).any jH=false->FA 30 25 KnH [] .normal [(0,ew z A o E.length c),(1,iV n),(5,iV i)] fr->
  Goes (G fr cs) w fun g' w'=>∃fr',g'=G fr' cs∧bA w0 w'∧cV 30 fr' w' (.bool (!(E.take n).any jH))
 |0,i,w,fr,hi,fw,hb,hf=>by
  obtain rfl:i=n:=by omega
  obtain⟨ρ,hρ⟩:∃ρ:Env,ρ=bL [(51,E.length),(52,c),(53,o),(30,i),(10,i)] [(50,A)] []:=⟨_,rfl⟩;refine((afF z).go ρ hf (by rw[hρ];cases z<;>rfl) ⟨by rw[hρ];exact decide_eq_false (by show ¬((i:Int)<(i:Int));omega),trivial⟩ trivial).trans fun g1 w1 hd=>?_;obtain⟨I,B,bT,rfl,f1,F1,_⟩:=hd;refine(leave1 EP F1 rfl).mono fun g6 w6 dj=>?_;obtain⟨dJ,rfl,rfl,hL⟩:=dj;rw[hb];exact⟨dJ,rfl,fw.trans f1,hL⟩
 |k+1,i,w,fr,hi,fw,hb,hf=>by
  have hlt:i<E.length:=by omega
  obtain⟨e,he⟩:∃e,E[i]?=some e:=⟨_,af hlt⟩;cases z with
  |true=>rw[hz rfl]at hlt;simp at hlt
  |false=>
  obtain⟨c1,c2⟩:=cL i e he;obtain⟨ρ,hρ⟩:∃ρ:Env,ρ=bL [(51,E.length),(52,c),(53,o),(30,n),(10,i),(11,e.1),(12,e.2)] [(50,A)] []:=⟨_,rfl⟩;have b1:(BE.cmp .lss (v 10) (v 30)).ev ρ=true:=by rw[hρ];exact decide_eq_true (by show(i:Int)<(n:Int);omega)
  have b2:=cg (ρ:=ρ) (i:=10) (n:=51) (I:=i) (N:=E.length) (by rw[hρ];rfl) (by rw[hρ];rfl) hlt;have mm:cw ρ w Cs:=⟨by rw[hρ];exact fw.cell c1,by rw[hρ];exact fw.cell c2,trivial⟩;have bad:jH e=true->(E.take n).any jH=true:=fun h=>List.any_eq_true.2 ⟨e,ay (i:=i) (by rw[List.getElem?_take,if_pos (by omega)];exact he),h⟩;by_cases h1:e.1<1
  ·refine(afD.go ρ hf (by rw[hρ];rfl) ⟨b1,b2.1,b2.2.1,b2.2.2.1,b2.2.2.2.1,by rw[hρ];exact decide_eq_true h1,trivial⟩ mm).trans fun g1 w1 hd=>?_;obtain⟨I,B,bT,rfl,f1,F1,_⟩:=hd;refine(leave1 EP F1 rfl).mono fun g6 w6 dj=>?_;obtain⟨dJ,rfl,rfl,hL⟩:=dj;rw[bad (by unfold jH;rw[decide_eq_true h1];rfl)];exact⟨dJ,rfl,fw.trans f1,hL⟩
  by_cases h2:e.1>4
  ·refine(afE.go ρ hf (by rw[hρ];rfl) ⟨b1,b2.1,b2.2.1,b2.2.2.1,b2.2.2.2.1,by rw[hρ];exact decide_eq_false h1,by rw[hρ];exact decide_eq_true h2,trivial⟩ mm).trans fun g1 w1 hd=>?_;obtain⟨I,B,bT,rfl,f1,F1,_⟩:=hd;refine(leave1 EP F1 rfl).mono fun g6 w6 dj=>?_;obtain⟨dJ,rfl,rfl,hL⟩:=dj;rw[bad (by unfold jH;rw[decide_eq_true h2];simp)];exact⟨dJ,rfl,fw.trans f1,hL⟩
  ·refine(afC.go ρ hf (by rw[hρ];rfl) ⟨b1,b2.1,b2.2.1,b2.2.2.1,b2.2.2.2.1,by rw[hρ];exact decide_eq_false h1,by rw[hρ];exact decide_eq_false h2,trivial⟩ mm).trans fun g1 w1 hd=>?_;obtain⟨I,B,bT,rfl,f1,F1,_⟩:=hd;rw[hρ]at F1;refine GL (z:=false) (c:=c) (fun h=>by cases h) cL hlen hn k (i+1) (by omega) (fw.trans f1) ?_ (by rw[<-inc (i:=i) (by omega)];exact F1);rw[List.take_add_one,he,Option.toList_some,List.any_append,hb];unfold jH;simp[h1,h2]
theorem Ja{s:Value}{E:List (Int×Int)}{n:Nat}(h:dY w s E)(hn:n≤E.length)(hlen:E.length≤4294967000):dS 30 #[s,iV n] w fun v w'=>bA w w'∧v=.bool (!(E.take n).any jH):=by
 obtain⟨z,A,o,c,rfl,hz,oU,cL⟩:=h.ex;refine cF fun cs=>?_;obtain⟨ρ,hρ⟩:∃ρ:Env,ρ=bL [(51,E.length),(52,c),(53,o),(30,n)] [(50,A)] []:=⟨_,rfl⟩;refine((afB z).go ρ (dV Tc rfl (ew z A o E.length c) (iV n)) (by rw[hρ];cases z<;>rfl) trivial trivial).trans fun g1 w1 hd=>?_;obtain⟨I,B,bT,rfl,f1,F1,_⟩:=hd;have fI:FA 30 25 KnH [] .normal [(0,ew z A o E.length c),(1,iV n),(5,iV (0:Nat))] bT:=by rw[hρ]at F1;cases z<;>exact F1
 refine(GL (w0:=w) hz cL hlen hn n 0 (by omega) f1 rfl fI).mono fun g2 w2 bX=>?_;obtain⟨cB,rfl,f2,hL⟩:=bX;exact⟨cB,_,rfl,hL,f2,rfl⟩
end
noncomputable def aqX(l:Nat):Code:=pc (bD Tryz.f38) (pd l)
theorem Mp:bP Tryz.prog 38 [.bC 0] .normal=.ok ⟨38,9,c8 38 [.bC 0],[.code (bD Tryz.f38)],[],.run,.normal⟩:=by kernel_rfl
theorem Mq:dP 38 9 2:=fun st=>by kernel_rfl
theorem afG:Pc 38 9 [.code (bD Tryz.f38)] ([(0,.agg [ss 1,sA 70 73 71 72,i64 (v 4)])]) [((.cmp .lss (.lit 0) (.tn (v 71))),true),((.cmp .geq (.lit 0) (.tn (v 71))),false),((.cmp .eql (v 1) (.lit 17)),true)] [(⟨(.dyn 70),(v 73)⟩,i8 (v 1)),(⟨(.dyn 70),(.plus (.tn (v 73)) (.lit 0))⟩,i8 (v 1))] [] 15 [] [2] [.code .ret] [TB] []:={}
theorem afH:Pc 38 9 [.code (bD Tryz.f38)] ([(0,.agg [ss 1,sA 70 73 71 72,i64 (v 4)])]) [((.cmp .lss (.lit 0) (.tn (v 71))),true),((.cmp .geq (.lit 0) (.tn (v 71))),false),((.cmp .eql (v 1) (.lit 17)),false)] [(⟨(.dyn 70),(v 73)⟩,i8 (v 1)),(⟨(.dyn 70),(.plus (.tn (v 73)) (.lit 0))⟩,i8 (v 1))] [] 15 [] [2] [.code .ret] [FB] []:={}
noncomputable def aqY(l:Nat):Code:=pc (bD Tryz.f39) (pd l)
theorem Mr:bP Tryz.prog 39 [.bC 0] .normal=.ok ⟨39,9,c8 39 [.bC 0],[.code (bD Tryz.f39)],[],.run,.normal⟩:=by kernel_rfl
theorem Ms:dP 39 9 2:=fun st=>by kernel_rfl
theorem afI:Pc 39 9 [.code (bD Tryz.f39)] ([(0,.agg [ss 1,sA 70 73 71 72,i64 (v 4)])]) [((.cmp .lss (.lit 0) (.tn (v 71))),true),((.cmp .geq (.lit 0) (.tn (v 71))),false),((.cmp .eql (v 1) (.lit 18)),true)] [(⟨(.dyn 70),(v 73)⟩,i8 (v 1)),(⟨(.dyn 70),(.plus (.tn (v 73)) (.lit 0))⟩,i8 (v 1))] [] 15 [] [2] [.code .ret] [TB] []:={}
theorem afJ:Pc 39 9 [.code (bD Tryz.f39)] ([(0,.agg [ss 1,sA 70 73 71 72,i64 (v 4)])]) [((.cmp .lss (.lit 0) (.tn (v 71))),true),((.cmp .geq (.lit 0) (.tn (v 71))),false),((.cmp .eql (v 1) (.lit 18)),false)] [(⟨(.dyn 70),(v 73)⟩,i8 (v 1)),(⟨(.dyn 70),(.plus (.tn (v 73)) (.lit 0))⟩,i8 (v 1))] [] 15 [] [2] [.code .ret] [FB] []:={}
section
variable {w:World}
theorem Mt{x:cH}{ts:Value}(h:cP w ts x.tree)(hne:x.tree≠[]):dS 38 #[fy x ts] w fun v w'=>bA w w'∧v=.bool (decide (dF x=17)):=by
 rcases h.ex with⟨_,he⟩|⟨A,o,c,rfl,hc,cL⟩
 ·exact(hne he).elim
 obtain⟨n,r,hx⟩:=List.exists_cons_of_ne_nil hne;have h0:=cL 0 n (by rw[hx];rfl);have hr:dF x=n.op:=by unfold dF;rw[hx];rfl
 have hl:0<x.tree.length:=by rw[hx];simp
 obtain⟨ρ,hρ⟩:∃ρ:Env,ρ=Go.Proofs.YtmobbajggkjpgaaGreat.SX.jn [(71,x.tree.length),(72,c),(73,o),(4,x.bY),(1,n.op)] [(70,A)] [] [(1,x.name)]:=⟨_,rfl⟩;have b1:(BE.cmp .lss (.lit 0) (.tn (v 71))).ev ρ=true:=by rw[hρ];exact decide_eq_true (by show(0:Int)<((x.tree.length:Nat):Int);omega)
 have b2:(BE.cmp .geq (.lit 0) (.tn (v 71))).ev ρ=false:=by rw[hρ];exact decide_eq_false (by show ¬((0:Int)≥((x.tree.length:Nat):Int));omega)
 have mm:cw ρ w [(⟨(.dyn 70),(v 73)⟩,i8 (v 1)),(⟨(.dyn 70),(.plus (.tn (v 73)) (.lit 0))⟩,i8 (v 1))]:=⟨by rw[hρ];have:=h0.c0;rw[Nat.zero_mul,Nat.add_zero]at this;exact this,by rw[hρ];have:=h0.c0;rw[Nat.zero_mul]at this;exact this,trivial⟩;rw[hr];by_cases hk:n.op=17
 ·rw[decide_eq_true hk];exact(afG.jy Mq ρ (cz Mp rfl (fy x (bU A o x.tree.length c))) (by rw[hρ];rfl) ⟨b1,b2,by rw[hρ];exact decide_eq_true hk,trivial⟩ mm).mono fun v w' ⟨f,I,B,e,_⟩=>⟨f,e⟩
 ·rw[decide_eq_false hk];exact(afH.jy Mq ρ (cz Mp rfl (fy x (bU A o x.tree.length c))) (by rw[hρ];rfl) ⟨b1,b2,by rw[hρ];exact decide_eq_false hk,trivial⟩ mm).mono fun v w' ⟨f,I,B,e,_⟩=>⟨f,e⟩
theorem ER{x:cH}{ts:Value}(h:cP w ts x.tree)(hne:x.tree≠[]):dS 39 #[fy x ts] w fun v w'=>bA w w'∧v=.bool (decide (dF x=18)):=by
 rcases h.ex with⟨_,he⟩|⟨A,o,c,rfl,hc,cL⟩
 ·exact(hne he).elim
 obtain⟨n,r,hx⟩:=List.exists_cons_of_ne_nil hne;have h0:=cL 0 n (by rw[hx];rfl);have hr:dF x=n.op:=by unfold dF;rw[hx];rfl
 have hl:0<x.tree.length:=by rw[hx];simp
 obtain⟨ρ,hρ⟩:∃ρ:Env,ρ=Go.Proofs.YtmobbajggkjpgaaGreat.SX.jn [(71,x.tree.length),(72,c),(73,o),(4,x.bY),(1,n.op)] [(70,A)] [] [(1,x.name)]:=⟨_,rfl⟩;have b1:(BE.cmp .lss (.lit 0) (.tn (v 71))).ev ρ=true:=by rw[hρ];exact decide_eq_true (by show(0:Int)<((x.tree.length:Nat):Int);omega)
 have b2:(BE.cmp .geq (.lit 0) (.tn (v 71))).ev ρ=false:=by rw[hρ];exact decide_eq_false (by show ¬((0:Int)≥((x.tree.length:Nat):Int));omega)
 have mm:cw ρ w [(⟨(.dyn 70),(v 73)⟩,i8 (v 1)),(⟨(.dyn 70),(.plus (.tn (v 73)) (.lit 0))⟩,i8 (v 1))]:=⟨by rw[hρ];have:=h0.c0;rw[Nat.zero_mul,Nat.add_zero]at this;exact this,by rw[hρ];have:=h0.c0;rw[Nat.zero_mul]at this;exact this,trivial⟩;rw[hr];by_cases hk:n.op=18
 ·rw[decide_eq_true hk];exact(afI.jy Ms ρ (cz Mr rfl (fy x (bU A o x.tree.length c))) (by rw[hρ];rfl) ⟨b1,b2,by rw[hρ];exact decide_eq_true hk,trivial⟩ mm).mono fun v w' ⟨f,I,B,e,_⟩=>⟨f,e⟩
 ·rw[decide_eq_false hk];exact(afJ.jy Ms ρ (cz Mr rfl (fy x (bU A o x.tree.length c))) (by rw[hρ];rfl) ⟨b1,b2,by rw[hρ];exact decide_eq_false hk,trivial⟩ mm).mono fun v w' ⟨f,I,B,e,_⟩=>⟨f,e⟩
end
def pW(tot:Nat):Nat->List Nd->Option (List Nd)
 |0,l=>some l
 |_+1,[]=>none
 |k+1,n::r=>if n.kids<0∨n.kids>tot then none else pW tot (k+n.kids.toNat) r
theorem oS.parts:∀{a b:List T},oS (a++b)->oS a∧oS b
 |[],b,h=>⟨trivial,h⟩
 |t::a,b,h=>⟨⟨h.1,(oS.parts h.2).1⟩,(oS.parts h.2).2⟩
theorem xO{tot:Nat}:∀(l:List Nd) (k:Nat) {r:List Nd},pW tot k l=some r->∃ts:List T,ts.length=k∧oS ts∧l=bW ts++r
 |l,0,r,h=>by unfold pW at h;exact⟨[],rfl,trivial,au h⟩
 |[],k+1,r,h=>by unfold pW at h;cases h
 |n::l,k+1,r,h=>by
  unfold pW at h;split at h
  ·cases h
  ·rename_i hn;obtain⟨ts,h1,h2,h3⟩:=xO l _ h;have hw:=oS.parts (a:=ts.take n.kids.toNat) (b:=ts.drop n.kids.toNat) (by rw[List.take_append_drop];exact h2);refine⟨.nd n (ts.take n.kids.toNat)::ts.drop n.kids.toNat,?_,⟨⟨?_,hw.1⟩,hw.2⟩,?_⟩
   ·rw[aC,br];omega
   ·rw[List.length_take];omega
   ·rw[h3];have e:=jd (ts.take n.kids.toNat) (ts.drop n.kids.toNat);rw[List.take_append_drop]at e;rw[e];simp[bW,flat]
theorem vn{tot:Nat}:∀(m:Nat) (ts:List T) (rest:List Nd),(bW ts).length=m->oS ts->(bW ts).length≤tot->pW tot ts.length (bW ts++rest)=some rest
 |m,[],rest,hm,hw,ht=>by simp[pW,bW]
 |0,t::ts,rest,hm,hw,ht=>by have:=sY t;simp only[bW,ak]at hm;omega
 |m+1,.nd n ks::ts,rest,hm,hw,ht=>by
  have hk:n.kids=ks.length:=hw.1.1;have e:bW (.nd n ks::ts)++rest=n::(bW (ks++ts)++rest):=by rw[jd];simp[bW,flat]
  have el:(bW (ks++ts)).length=m:=by have:=congrArg aP e;simp only[ak,aC]at this hm;omega
  have hfl:=fX ks;have hfa:(bW (ks++ts)).length=(bW ks).length+(bW ts).length:=by rw[jd,ak]
  rw[e];show pW tot (ts.length+1) (n::(bW (ks++ts)++rest))=some rest;unfold pW;rw[if_neg (by omega),show ts.length+n.kids.toNat=(ks++ts).length by rw[ak];omega];exact vn m (ks++ts) rest el (oS.app hw.1.2 hw.2) (by omega)
def bQ(op:Int):Int:=
 if op=1∨op=2 then 0
 else if op=3∨op=13∨op=14∨op=15∨op=16∨op=18 then 1
 else if op=4∨op=5∨op=6 then 2
 else if op=12 then 3
 else if op=10∨op=11∨op=17 then-1
 else-2
theorem oC(op:Int)(len:Nat):jz op len=if bQ op=-2 then none else some (if bQ op=-1 then 1 else bQ op,if bQ op=-1 then(len:Int)else bQ op,decide (bQ op=-1)||decide (op=18)):=by
 by_cases h1:op=1
 ·subst h1;rfl
 by_cases h2:op=2
 ·subst h2;rfl
 by_cases h3:op=3
 ·subst h3;rfl
 by_cases h4:op=4
 ·subst h4;rfl
 by_cases h5:op=5
 ·subst h5;rfl
 by_cases h6:op=6
 ·subst h6;rfl
 by_cases h10:op=10
 ·subst h10;rfl
 by_cases h11:op=11
 ·subst h11;rfl
 by_cases h12:op=12
 ·subst h12;rfl
 by_cases Ew:op=13
 ·subst Ew;rfl
 by_cases Iz:op=14
 ·subst Iz;rfl
 by_cases Lz:op=15
 ·subst Lz;rfl
 by_cases On:op=16
 ·subst On;rfl
 by_cases Ou:op=17
 ·subst Ou;rfl
 by_cases LG:op=18
 ·subst LG;rfl
 ·have:bQ op=-2:=by simp[bQ, *]
  rw[this,if_pos rfl];simp[jz, *]
theorem tA(op:Int):-2≤bQ op∧bQ op≤3:=by
 unfold bQ
 repeat' split
 all_goals omega
def vb(n:Nd):Bool:=!(decide (bQ n.op=-2)||(decide (bQ n.op≥0)&&!decide (n.kids=bQ n.op)||decide (bQ n.op=-1)&&decide (n.kids<1))||decide (n.bY<0))&&!(decide (n.op=1)&&decide (n.n<0)||!decide (n.op=1)&&!decide (n.op=2)&&!decide (n.n=0))
def mP(root:Bool)(s:T):Bool:=vb s.n&&(root||!(decide (s.n.op=17)||decide (s.n.op=18)))&&(!(decide (bQ s.n.op=-1)||decide (s.n.op=18))||s.ks.all fun k=>decide (k.n.op=2))
mutual
def kE:T->List T
 |.nd n ks=>.nd n ks::ju ks
def ju:List T->List T
 |[]=>[]
 |k::ks=>kE k++ju ks
end
def tB:Nat->List T->Bool
 |_,[]=>true
 |i,s::r=>mP (decide (i=0)) s&&tB (i+1) r
theorem CO:∀(l:List T) (i:Nat),0<i->tB i l=l.all (mP false)
 |[],i,h=>rfl
 |s::r,i,h=>by unfold tB;rw[List.all_cons,decide_eq_false (by omega:¬i=0),CO r (i+1) (by omega)]
theorem vo(n:Nd)(ks:List T):tB 0 (kE (.nd n ks))=(mP true (.nd n ks)&&(ju ks).all (mP false)):=by unfold kE tB;rw[CO _ _ (by omega)];rfl
theorem CP{n:Nd}{root:Bool}{lo hi:Int}{nm:Bool}{len:Nat}(h:jz n.op len=some (lo,hi,nm))(hk:n.kids≤len):pN n root lo hi=!(vb n&&(root||!(decide (n.op=17)||decide (n.op=18)))):=by
 rw[oC]at h;split at h
 ·cases h
 rename_i h2;have hr:=tA n.op;simp only[Option.some.injEq,Prod.mk.injEq]at h;obtain⟨hlo,hhi,_⟩:=h;have e1:(decide (n.kids<lo)||decide (n.kids>hi))=(decide (bQ n.op≥0)&&!decide (n.kids=bQ n.op)||decide (bQ n.op=-1)&&decide (n.kids<1)):=by
  by_cases hm:bQ n.op=-1
  ·rw[if_pos hm]at hlo hhi;subst hlo hhi;rw[decide_eq_true hm,decide_eq_false (by omega:¬n.kids>len),decide_eq_false (by omega:¬bQ n.op≥0)];simp
  ·rw[if_neg hm]at hlo hhi;subst hlo hhi;rw[decide_eq_false hm,decide_eq_true (by omega:bQ n.op≥0)];by_cases he:n.kids=bQ n.op
   ·rw[decide_eq_true he,decide_eq_false (by omega),decide_eq_false (by omega)];rfl
   ·rw[decide_eq_false he];by_cases hl:n.kids<bQ n.op
    ·rw[decide_eq_true hl];rfl
    ·rw[decide_eq_false hl,decide_eq_true (by omega:n.kids>bQ n.op)];rfl
 unfold pN vb;rw[e1,decide_eq_false h2];have e2:(!(decide (n.n=0)||decide (n.op=2)||decide (n.op=1)&&decide (n.n>0)))=(decide (n.op=1)&&decide (n.n<0)||!decide (n.op=1)&&!decide (n.op=2)&&!decide (n.n=0)):=by
  by_cases a:n.op=1
  ·have b:¬n.op=2:=by omega
   rw[decide_eq_true a,decide_eq_false b];by_cases c:n.n=0
   ·rw[decide_eq_true c,decide_eq_false (by omega),decide_eq_false (by omega)];rfl
   ·rw[decide_eq_false c];by_cases d:n.n<0
    ·rw[decide_eq_true d,decide_eq_false (by omega)];rfl
    ·rw[decide_eq_false d,decide_eq_true (by omega:n.n>0)];rfl
  ·rw[decide_eq_false a];cases decide (n.op=2)<;>cases decide (n.n=0)<;>rfl
 rw[e2];generalize(decide (bQ n.op≥0)&&!decide (n.kids=bQ n.op)||decide (bQ n.op=-1)&&decide (n.kids<1))=A;generalize(decide (n.op=1)&&decide (n.n<0)||!decide (n.op=1)&&!decide (n.op=2)&&!decide (n.n=0))=C;generalize(decide (n.op=17)||decide (n.op=18))=D;generalize decide (n.bY<0)=E;cases A<;>cases C<;>cases D<;>cases E<;>cases root<;>rfl
theorem tC{g:List Nd->Option (T×List Nd)}{names:Bool}:∀(k:Nat) (l:List Nd) (ts:List T) (r:List Nd),fH g names k l=some (ts,r)->names=true->ts.all (fun k=>decide (k.n.op=2))=true
 |0,l,ts,r,h,hn=>by cases h;rfl
 |k+1,l,ts,r,h,hn=>by
  unfold fH at h;split at h
  ·cases h
  ·rename_i t r' e;split at h
   ·cases h
   ·rename_i hb;split at h
    ·cases h
    ·rename_i ts' r'' e2;cases h;rw[List.all_cons,tC k _ _ _ e2 hn];rw[hn]at hb;simpa using hb
theorem zK{p:T->Bool}:∀{ts:List T},(∀t∈ts,(kE t).all p=true)->(ju ts).all p=true
 |[],_=>rfl
 |t::ts,h=>by rw[ju,List.all_append,h t (ai ..),zK fun t' ht=>h t' (aa _ ht)];rfl
theorem mH:∀(f:Nat) (l:List Nd) (root:Bool) (t:T) (r:List Nd),dQ f l root=some (t,r)->mP root t=true∧(ju t.ks).all (mP false)=true
 |0,l,root,t,r,h=>by cases h
 |f+1,[],root,t,r,h=>by cases h
 |f+1,n::l,root,t,r,h=>by
  have hall:=h;unfold dQ at h;split at h
  ·cases h
  ·rename_i lo hi nm e0;split at h
   ·cases h
   ·rename_i hb;split at h
    ·cases h
    ·rename_i ts r' e;cases h;obtain⟨hlen,hk⟩:=pR (P:=fun t=>mP false t=true∧(ju t.ks).all (mP false)=true) (fun l t r h=>mH f l false t r h) _ _ _ _ e;have hb':pN n root lo hi=false:=by simpa using hb
     have hfl:=nw (fun l t r h=>g_ f l false t r h) _ _ _ _ e;have Nx:=fX ts;have hle:n.kids≤(l.length+1:Nat):=by have:=congrArg aP hfl;rw[ak]at this;omega
     have hok:=CP (root:=root) e0 hle;rw[hb']at hok;have Mu:(vb n&&(root||!(decide (n.op=17)||decide (n.op=18))))=true:=by
      generalize(vb n&&(root||!(decide (n.op=17)||decide (n.op=18))))=x at hok;cases x
      ·cases hok
      ·rfl
     have hnm:nm=(decide (bQ n.op=-1)||decide (n.op=18)):=by
      rw[oC]at e0;split at e0
      ·cases e0
      ·simp only[Option.some.injEq,Prod.mk.injEq]at e0;exact e0.2.2.symm
     refine⟨?_,zK fun t ht=>?_⟩
     ·unfold mP;rw[show(T.nd n ts).n=n from rfl,show(T.nd n ts).ks=ts from rfl,Mu,Bool.true_and,<-hnm];cases nm with
      |false=>rfl
      |true=>exact tC _ _ _ _ e rfl
     ·obtain⟨a,b⟩:=hk t ht;cases t with
      |nd m ks=>rw[kE,List.all_cons,a];exact b
theorem nZ{n:Nd}(h:vb n=true):bQ n.op≠-2∧(0≤bQ n.op->n.kids=bQ n.op):=by
 unfold vb at h;constructor
 ·intro e;rw[decide_eq_true e]at h;simp at h
 ·intro e;rw[decide_eq_true e]at h;by_cases hk:n.kids=bQ n.op
  ·exact hk
  ·rw[decide_eq_false hk]at h;simp at h
mutual
theorem CQ:∀(t:T) (root:Bool) (f:Nat) (rest:List Nd),ue t->mP root t=true->(ju t.ks).all (mP false)=true->(flat t).length<f->dQ f (flat t++rest) root=some (t,rest)
 |.nd n ks,root,0,rest,hw,h1,h2,hf=>by omega
 |.nd n ks,root,f+1,rest,hw,h1,h2,hf=>by have hk:n.kids=ks.length:=hw.1;have hfl:=fX ks;have AW:=h1;unfold mP at h1;simp only[an]at h1;obtain⟨⟨ho,hr⟩,hn⟩:=h1;have ho:vb n=true:=ho;have hr:(root||!(decide (n.op=17)||decide (n.op=18)))=true:=hr;have hn:(!(decide (bQ n.op=-1)||decide (n.op=18))||ks.all fun k=>decide (k.n.op=2))=true:=hn;obtain⟨o1,o2⟩:=nZ ho;have e0:=oC n.op ((bW ks++rest).length+1);rw[if_neg o1]at e0;rw[flat,List.cons_append];unfold dQ;rw[e0];dsimp only;have hb:=CP (root:=root) e0 (by rw[hk,ak];omega);rw[ho,hr]at hb;rw[hb,if_neg (by decide)];have:=GM ks f rest (names:=decide (bQ n.op=-1)||decide (n.op=18)) hw.2 h2 (fun e=>by rw[e]at hn;exact hn) (by rw[flat,aC]at hf;omega);rw[hk,bx,this]
theorem GM:∀(ks:List T) (f:Nat) (rest:List Nd) {names:Bool},oS ks->(ju ks).all (mP false)=true->(names=true->ks.all (fun k=>decide (k.n.op=2))=true)->(bW ks).length<f->fH (fun r=>dQ f r false) names ks.length (bW ks++rest)=some (ks,rest)
 |[],f,rest,names,hw,h2,hn,hf=>rfl
 |k::ks,f,rest,names,hw,h2,hn,hf=>by
  rw[ju,List.all_append]at h2;simp only[an]at h2;rw[bW,ak]at hf;have hs:mP false k=true∧(ju k.ks).all (mP false)=true:=by
   have:=h2.1;cases k with
   |nd m l=>rw[kE,List.all_cons,an]at this;exact this
  have g:=CQ k false f (bW ks++rest) hw.1 hs.1 hs.2 (by omega);rw[aC];unfold fH;rw[bW,aY,g];dsimp only;have hop:names=true->k.n.op=2∧ks.all (fun k=>decide (k.n.op=2))=true:=fun e=>by have:=hn e;rw[List.all_cons,an]at this;exact⟨of_decide_eq_true this.1,this.2⟩
  rw[if_neg (by
   cases names with
   |false=>simp
   |true=>simp[(hop rfl).1])]
  have r:=GM ks f rest (names:=names) hw.2 h2.2 (fun e=>(hop e).2) (by omega);rw[r]
end
def iq(l:List Nd):Bool:=match dQ (l.length+1) l true with
 |some (_,[])=>true
 |_=>false
theorem Jb{t:T}(hw:ue t):iq (flat t)=tB 0 (kE t):=by
 cases t with
 |nd n ks=>
 rw[vo];cases e:(mP true (.nd n ks)&&(ju ks).all (mP false))with
 |true=>rw[an]at e;have:=CQ (.nd n ks) true ((flat (.nd n ks)).length+1) [] hw e.1 e.2 (by omega);rw[aQ]at this;unfold iq;rw[this]
 |false=>
  unfold iq;split
  ·rename_i t' h;have hg:=mH _ _ _ _ _ h;have hfl:=g_ _ _ _ _ _ h;have hw':=(jM _ _ _ _ _ h).1;rw[aQ]at hfl;have b1:=vn (tot:=(flat (.nd n ks)).length) _ [.nd n ks] [] rfl ⟨hw,trivial⟩ (by simp[bW]);have hu:∀(m:Nat) (a b:List T),(bW a).length=m->oS a->oS b->a.length=b.length->bW a=bW b->a=b:=fun m=>by
    induction m with
    |zero=>
     intro a b hm ha hb hl he;cases a with
     |nil=>exact(bk.1 hl.symm).symm
     |cons t ts=>have:=sY t;simp only[bW,ak]at hm;omega
    |succ m ih=>
     intro a b hm ha hb hl he;cases a with
     |nil=>exact(bk.1 hl.symm).symm
     |cons t ts=>
      cases b with
      |nil=>cases hl
      |cons t' ts'=>
       cases t with
       |nd x xs=>
        cases t' with
        |nd y ys=>
         simp only[bW,flat,List.cons_append,List.cons.injEq]at he;obtain⟨rfl,he⟩:=he;have hx:x.kids=xs.length:=ha.1.1;have hy:x.kids=ys.length:=hb.1.1;have hxy:xs.length=ys.length:=by omega
         have:=ih (xs++ts) (ys++ts') (by
          rw[jd,ak];simp only[bW,flat,ak,aC]at hm;omega) (oS.app ha.1.2 ha.2) (oS.app hb.1.2 hb.2) (by
          simp only[aC]at hl;simp only[ak];omega) (by rw[jd,jd];exact he)
         obtain⟨h1,h2⟩:=List.append_inj this hxy;rw[h1,h2]
   have:=hu _ [.nd n ks] [t'] rfl ⟨hw,trivial⟩ ⟨hw',trivial⟩ rfl (by simpa[bW] using hfl);obtain rfl:T.nd n ks=t':=by simpa using this
   rw[hg.1]at e;have e2:(ju ks).all (mP false)=true:=hg.2;rw[e2]at e;cases e
  ·rfl
theorem ES{l:List Nd}(h:pW l.length 1 l≠some []):iq l=false:=by
 unfold iq;split
 ·rename_i t e;exfalso;have hfl:=g_ _ _ _ _ _ e;rw[aQ]at hfl;have:=vn (tot:=l.length) _ [t] [] rfl ⟨(jM _ _ _ _ _ e).1,trivial⟩ (by simp[bW,<-hfl]);apply h;simpa[bW,<-hfl] using this
 ·rfl
theorem CR{l:List Nd}(h:pW l.length 1 l=some []):∃t,ue t∧l=flat t:=by
 obtain⟨ts,h1,h2,h3⟩:=xO _ _ h
 match ts,h1 with
 |[t],_=>exact⟨t,h2.1,by simpa[bW] using h3⟩
mutual
theorem ET:∀t:T,(kE t).map T.n=flat t
 |.nd n ks=>by rw[kE,flat,aK,GN ks];rfl
theorem GN:∀ks:List T,(ju ks).map T.n=bW ks
 |[]=>rfl
 |k::ks=>by rw[ju,bW,List.map_append,ET k,GN ks]
end
theorem tD(t:T):(kE t).length=(flat t).length:=by rw[<-ET,aE]
mutual
theorem CS:∀(t:T) {i:Nat} {s:T} (rest:List Nd),(kE t)[i]?=some s->∃r,(flat t++rest).drop i=flat s++r
 |.nd n ks,0,s,rest,h=>by rw[kE]at h;obtain rfl:T.nd n ks=s:=au h;exact⟨rest,rfl⟩
 |.nd n ks,i+1,s,rest,h=>by rw[kE]at h;have:=zL ks rest (i:=i) h;rw[flat];exact this
theorem zL:∀(ks:List T) {i:Nat} {s:T} (rest:List Nd),(ju ks)[i]?=some s->∃r,(bW ks++rest).drop i=flat s++r
 |[],i,s,rest,h=>by cases h
 |k::ks,i,s,rest,h=>by
  rw[ju]at h;rw[bW,aY];by_cases hi:i<(kE k).length
  ·rw[aV hi]at h;exact CS k (bW ks++rest) h
  ·rw[List.getElem?_append_right (by omega),tD]at h;rw[tD]at hi;obtain⟨r,hr⟩:=zL ks rest h;refine⟨r,?_⟩;rw[List.drop_append,aS (by omega),List.nil_append];exact hr
end
mutual
theorem GO:∀(t:T),ue t->∀s∈kE t,ue s
 |.nd n ks,hw,s,hs=>by
  rw[kE]at hs;rcases aj.1 hs with rfl|hs
  ·exact hw
  ·exact CU ks hw.2 s hs
theorem CU:∀(ks:List T),oS ks->∀s∈ju ks,ue s
 |[],_,s,hs=>by cases hs
 |k::ks,hw,s,hs=>by
  rw[ju]at hs;rcases aR.1 hs with hs|hs
  ·exact GO k hw.1 s hs
  ·exact CU ks hw.2 s hs
end
def JJ(t:T):Prop:=∀s∈kE t,vb s.n=true
theorem vp:∀(l:List T) (i:Nat),tB i l=true->∀s∈l,vb s.n=true
 |[],i,h,s,hs=>by cases hs
 |x::l,i,h,s,hs=>by
  unfold tB at h;rw[an]at h;rcases aj.1 hs with rfl|hs
  ·have:=h.1;unfold mP at this;simp only[an]at this;exact this.1.1
  ·exact vp l (i+1) h.2 s hs
theorem zM{k s:T}:∀{ks:List T},k∈ks->s∈kE k->s∈ju ks
 |[],hk,hs=>by cases hk
 |a::l,hk,hs=>by
  rw[ju];rcases aj.1 hk with rfl|hk
  ·exact List.mem_append_left _ hs
  ·exact List.mem_append_right _ (zM hk hs)
theorem JJ.kid{n:Nd}{ks:List T}(h:JJ (.nd n ks)):∀k∈ks,JJ k:=fun k hk s hs=>h s (by rw[kE];exact aa _ (zM hk hs))
theorem m_(a b:Int):max2 a b=max a b:=by unfold max2;split<;>omega
theorem vq{a b:Int}(h:-9223372036854775808≤a+b∧a+b≤9223372036854775807):ek a b=a+b:=iM h
mutual
theorem uQ:∀(t:T) (d:Int),(flat t).length≤1000000->1≤(cy t d).2∧(cy t d).2≤(flat t).length
 |.nd n ks,d,h=>by rw[flat,aC]at h⊢;have:=fun x y=>uR ks n.op x 0 y 0 ((bW ks).length) (by omega) (by omega) (by omega) (by omega);rw[cy];have:=this (if ck n.op>2∧ks≠[]then ek d 1 else d) (if ck n.op>2∧ks≠[]then ek d 1 else d);dsimp only;rw[vq (by omega)];omega
theorem uR:∀(ks:List T) (op d:Int) (i:Nat) (most marks:Int) (B:Nat),0≤marks->marks≤B->(bW ks).length≤B->B≤1000000->0≤(eU op d i ks most marks).2∧(eU op d i ks most marks).2≤B
 |[],op,d,i,most,marks,B,h0,h1,h2,h3=>by rw[eU];exact⟨h0,h1⟩
 |k::ks,op,d,i,most,marks,B,h0,h1,h2,h3=>by
  rw[bW,ak]at h2;rw[eU];have hk:=fun d'=>uQ k d' (by omega);refine uR ks op d (i+1) _ _ B ?_ ?_ (by omega) h3
  ·split
   ·have:=hk (if decide (ck k.n.op<ee op i)=true then ek (if ck op<3∧i=1 then ek d marks else d) 1 else if ck op<3∧i=1 then ek d marks else d);omega
   ·exact h0
  ·split
   ·have:=hk (if decide (ck k.n.op<ee op i)=true then ek (if ck op<3∧i=1 then ek d marks else d) 1 else if ck op<3∧i=1 then ek d marks else d);omega
   ·exact h1
end
theorem CV:∀(ks:List T) (op d:Int) (i:Nat) (most marks:Int),most≤(eU op d i ks most marks).1
 |[],op,d,i,most,marks=>by rw[eU];exact Int.le_refl _
 |k::ks,op,d,i,most,marks=>by rw[eU];refine Int.le_trans ?_ (CV ks op d (i+1) _ _);rw[m_,m_];omega
theorem Mv{t:T}{d:Int}(h:ck t.n.op<3):d≤(cy t d).1:=by
 cases t with
 |nd n ks=>have h:ck n.op<3:=h;rw[cy,if_neg (by omega)];exact CV ..
theorem CW(a b:ByteArray):(a==b)=decide (a=b):=by
 cases a with|mk x=>cases b with|mk y=>
 by_cases h:x=y
 ·subst h;rw[decide_eq_true rfl];show(x==x)=true;simp
 ·have:¬((⟨x⟩:ByteArray)=⟨y⟩):=fun e=>h (by injection e);rw[decide_eq_false this];show(x==y)=false;simpa using h
def xP(L:List cH)(s:ByteArray):Int:=match L.findIdx? (fun x=>x.name==s)with
 |some i=>i
 |none=>-1
def jX(L:List cH)(i:Nat):List (ByteArray×Bool):=(L.take i).map fun x=>(x.name,true)
theorem CX(L:List cH)(s:ByteArray):(eT s (L.map fun x=>(x.name,true))).getD false=L.any fun x=>s==x.name:=by
 induction L with
 |nil=>rfl
 |cons x L ih=>
  unfold eT at ih⊢;rw[aK,List.find?_cons,List.any_cons];dsimp only;cases e:s==x.name with
  |true=>rfl
  |false=>exact ih
theorem Mw{L:List cH}{i:Nat}{x:cH}(h:L[i]?=some x):decide (xP L x.name<i)=(eT x.name (jX L i)).getD false:=by
 unfold jX;rw[CX];unfold xP;have hi:=(aq.1 h).1;cases e:L.findIdx? (fun y=>y.name==x.name)with
 |none=>exfalso;rw[List.findIdx?_eq_none_iff]at e;have:=e x (ay h);rw[CW,decide_eq_true rfl]at this;cases this
 |some j=>
  rw[List.findIdx?_eq_some_iff_getElem]at e;obtain⟨hj,h1,h2⟩:=e;dsimp only;by_cases hji:j<i
  ·rw[decide_eq_true (by omega)];symm;rw[List.any_eq_true];refine⟨L[j],?_,?_⟩
   ·rw[List.mem_iff_getElem?];exact⟨j,by rw[List.getElem?_take,if_pos hji];exact af hj⟩
   ·rw[CW]at h1⊢;rw[of_decide_eq_true h1];exact decide_eq_true rfl
  ·rw[decide_eq_false (by omega)];symm;rw[List.any_eq_false];intro y hy hyx;obtain⟨k,hk⟩:=List.mem_iff_getElem?.1 hy;rw[List.getElem?_take]at hk;split at hk
   ·rename_i hki;have Td:k<L.length:=by omega
    have e3:L[k]=y:=by rw[af Td]at hk;exact au hk
    have:=h2 k (by omega);rw[e3]at this;rw[CW]at this hyx;rw[of_decide_eq_true hyx,decide_eq_true rfl]at this;exact this rfl
   ·cases hk
def tE(x:cH)(i:Nat)(dup:Bool):Int:=
 if(i:Int)≥4096 then 34
 else if gq x.name=false∨dup=true then 43
 else if x.bY<0∨iq x.tree=false then 1
 else if x.tree.any (fun n=>decide (bQ n.op=-1)&&decide (n.kids>16))then 44
 else if x.tree.any (fun n=>decide (n.op=2)&&(decide (n.n<0)||decide (n.n≥i)))then 43
 else if(((k8 x).map fun t=>(cy t 0).1).getD 0)>64 then 42 else 0
theorem Jc{x:cH}{i:Nat}{names:List (ByteArray×Bool)}:tE x i ((eT x.name names).getD false)=eZ x i names:=by
 unfold tE eZ;split
 ·rfl
 split
 ·rfl
 have ht:k8 x=(dQ (x.tree.length+1) x.tree true).map (·.1):=rfl;unfold iq;cases e:dQ (x.tree.length+1) x.tree true with
 |none=>simp
 |some p=>
  obtain⟨t,rest⟩:=p;dsimp only;cases rest with
  |cons a l=>simp
  |nil=>
   have hfl:=g_ _ _ _ _ _ e;rw[aQ]at hfl;have hw:=(jM _ _ _ _ _ e).1;have hs:=mH _ _ _ _ _ e;by_cases h1:x.bY<0
   ·rw[if_pos (.inl h1),if_pos (.inr h1)]
   ·rw[if_neg (show ¬(x.bY<0∨true=false)from fun h=>h.elim h1 (fun h=>by cases h)),if_neg (show ¬(0<([]:List Nd).length∨x.bY<0)from fun h=>h.elim (fun h=>by cases h) h1)];have hok:JJ t:=fun s hs'=>by
     have:tB 0 (kE t)=true:=by
      cases t with
      |nd n ks=>rw[vo,an];exact hs
     exact vp _ _ this s hs'
    have e44:x.tree.any (fun n=>decide (bQ n.op=-1)&&decide (n.kids>16))=x.tree.any fun n=>decide (n.kids>16):=by
     rw[hfl];have:∀l:List T,(∀s∈l,vb s.n=true)->(l.map T.n).any (fun n=>decide (bQ n.op=-1)&&decide (n.kids>16))=(l.map T.n).any fun n=>decide (n.kids>16):=by
      intro l hl
      induction l with
      |nil=>rfl
      |cons s l ih=>
       rw[aK,List.any_cons,List.any_cons,ih fun s' hs'=>hl s' (aa _ hs')];congr 1;have:=nZ (hl s (ai ..));have hr:=tA s.n.op;by_cases hk:bQ s.n.op=-1
       ·rw[decide_eq_true hk];rfl
       ·rw[decide_eq_false hk,decide_eq_false (by have:=this.2 (by omega);omega)];rfl
     rw[<-ET];exact this _ hok
    rw[e44,ht,e];simp only[av,Option.getD_some]
noncomputable def afL(l:Nat):Code:=pc (bD Tryz.f76) (pd l)
theorem Te:bP Tryz.prog 76 [.bC 0] .normal=.ok ⟨76,11,c8 76 [.bC 0],[.code (bD Tryz.f76)],[],.run,.normal⟩:=by kernel_rfl
theorem xQ:dP 76 11 2:=fun st=>by kernel_rfl
noncomputable abbrev GP:List Item:=[.code .ret,.inBlock 0,.code (afL 7)]
theorem afM:Pc 76 11 [.code (bD Tryz.f76)] ([(0,i8 (v 1))]) K5 [] [] 23 [] [2] GP [i64 (.lit 1)] []:={}
theorem afN:Pc 76 11 [.code (bD Tryz.f76)] ([(0,i8 (v 1))]) RB [] [] 26 [] [2] GP [i64 (.lit 1)] []:={}
theorem afO:Pc 76 11 [.code (bD Tryz.f76)] ([(0,i8 (v 1))]) RD [] [] 32 [] [2] GP [i64 (.lit 2)] []:={}
theorem afP:Pc 76 11 [.code (bD Tryz.f76)] ([(0,i8 (v 1))]) WL [] [] 38 [] [2] GP [i64 (.lit 3)] []:={}
theorem afQ:Pc 76 11 [.code (bD Tryz.f76)] ([(0,i8 (v 1))]) WM [] [] 40 [] [2] [.code .ret] [i64 (.lit 4)] []:={}
noncomputable def afR(l:Nat):Code:=pc (bD Tryz.f52) (pd l)
theorem jg:bP Tryz.prog 52 [.bC 0] .normal=.ok ⟨52,24,c8 52 [.bC 0],[.code (bD Tryz.f52)],[],.run,.normal⟩:=by kernel_rfl
theorem jh:dP 52 24 2:=fun st=>by kernel_rfl
noncomputable abbrev mJ:List Item:=[.code .ret,.inBlock 0,.code (afR 7)]
theorem afS:Pc 52 24 [.code (bD Tryz.f52)] ([(0,i8 (.lit 1))]) [] [] [] 23 [] [2] mJ [i64 (.lit 0)] []:={}
theorem afT:Pc 52 24 [.code (bD Tryz.f52)] ([(0,i8 (.lit 2))]) [] [] [] 26 [] [2] mJ [i64 (.lit 0)] []:={}
theorem afU:Pc 52 24 [.code (bD Tryz.f52)] ([(0,i8 (.lit 3))]) [] [] [] 35 [] [2] mJ [i64 (.lit 1)] []:={}
theorem ZD:Pc 52 24 [.code (bD Tryz.f52)] ([(0,i8 (.lit 13))]) [] [] [] 41 [] [2] mJ [i64 (.lit 1)] []:={}
theorem ZE:Pc 52 24 [.code (bD Tryz.f52)] ([(0,i8 (.lit 14))]) [] [] [] 47 [] [2] mJ [i64 (.lit 1)] []:={}
theorem ZF:Pc 52 24 [.code (bD Tryz.f52)] ([(0,i8 (.lit 15))]) [] [] [] 53 [] [2] mJ [i64 (.lit 1)] []:={}
theorem ZG:Pc 52 24 [.code (bD Tryz.f52)] ([(0,i8 (.lit 16))]) [] [] [] 59 [] [2] mJ [i64 (.lit 1)] []:={}
theorem ZH:Pc 52 24 [.code (bD Tryz.f52)] ([(0,i8 (.lit 18))]) [] [] [] 62 [] [2] mJ [i64 (.lit 1)] []:={}
theorem afV:Pc 52 24 [.code (bD Tryz.f52)] ([(0,i8 (.lit 4))]) [] [] [] 71 [] [2] mJ [i64 (.lit 2)] []:={}
theorem afW:Pc 52 24 [.code (bD Tryz.f52)] ([(0,i8 (.lit 5))]) [] [] [] 77 [] [2] mJ [i64 (.lit 2)] []:={}
theorem afX:Pc 52 24 [.code (bD Tryz.f52)] ([(0,i8 (.lit 6))]) [] [] [] 80 [] [2] mJ [i64 (.lit 2)] []:={}
theorem ZI:Pc 52 24 [.code (bD Tryz.f52)] ([(0,i8 (.lit 12))]) [] [] [] 86 [] [2] mJ [i64 (.lit 3)] []:={}
theorem ZJ:Pc 52 24 [.code (bD Tryz.f52)] ([(0,i8 (.lit 10))]) [] [] [] 95 [] [2] mJ [i64 (.lit (-1))] []:={}
theorem ZK:Pc 52 24 [.code (bD Tryz.f52)] ([(0,i8 (.lit 11))]) [] [] [] 101 [] [2] mJ [i64 (.lit (-1))] []:={}
theorem ZL:Pc 52 24 [.code (bD Tryz.f52)] ([(0,i8 (.lit 17))]) [] [] [] 104 [] [2] mJ [i64 (.lit (-1))] []:={}
theorem afY:Pc 52 24 [.code (bD Tryz.f52)] ([(0,i8 (v 1))]) [((.cmp .eql (v 1) (.lit 1)),false),((.cmp .eql (v 1) (.lit 2)),false),((.cmp .eql (v 1) (.lit 3)),false),((.cmp .eql (v 1) (.lit 13)),false),((.cmp .eql (v 1) (.lit 14)),false),((.cmp .eql (v 1) (.lit 15)),false),((.cmp .eql (v 1) (.lit 16)),false),((.cmp .eql (v 1) (.lit 18)),false),((.cmp .eql (v 1) (.lit 4)),false),((.cmp .eql (v 1) (.lit 5)),false),((.cmp .eql (v 1) (.lit 6)),false),((.cmp .eql (v 1) (.lit 12)),false),((.cmp .eql (v 1) (.lit 10)),false),((.cmp .eql (v 1) (.lit 11)),false),((.cmp .eql (v 1) (.lit 17)),false)] [] [] 106 [] [2] [.code .ret] [i64 (.lit (-2))] []:={}
noncomputable def aq0(l:Nat):Code:=pc (bD Tryz.f71) (pd l)
theorem Tf:bP Tryz.prog 71 [.bC 0] .normal=.ok ⟨71,9,c8 71 [.bC 0],[.code (bD Tryz.f71)],[],.run,.normal⟩:=by kernel_rfl
theorem Tg:dP 71 9 2:=fun st=>by kernel_rfl
theorem Ti(a b:Bool):Pc 71 9 [.code (bD Tryz.f71)] ([(0,.int .u8 (v 1))]) [((.cmp .geq (v 1) (.lit 97)),a),((.cmp .leq (v 1) (.lit 122)),b)] [] [] 14 [] [2] [.code .ret] [.bool (.lit (a&&b))] []:=by cases a<;>cases b<;>exact{}
noncomputable def aq1(l:Nat):Code:=pc (bD Tryz.f90) (pd l)
theorem Tj:bP Tryz.prog 90 [.bC 0] .normal=.ok ⟨90,9,c8 90 [.bC 0],[.code (bD Tryz.f90)],[],.run,.normal⟩:=by kernel_rfl
theorem Tk:dP 90 9 2:=fun st=>by kernel_rfl
theorem Tl(a b:Bool):Pc 90 9 [.code (bD Tryz.f90)] ([(0,.int .u8 (v 1))]) [((.cmp .geq (v 1) (.lit 48)),a),((.cmp .leq (v 1) (.lit 57)),b)] [] [] 14 [] [2] [.code .ret] [.bool (.lit (a&&b))] []:=by cases a<;>cases b<;>exact{}
noncomputable def EU(l:Nat):Code:=pc (bD Tryz.f72) (pd l)
theorem Tm:bP Tryz.prog 72 [.bC 0] .normal=.ok ⟨72,21,c8 72 [.bC 0],[.code (bD Tryz.f72)],[],.run,.normal⟩:=by kernel_rfl
theorem xR:dP 72 21 2:=fun st=>by kernel_rfl
theorem afZ:Pc 72 21 [.code (bD Tryz.f72)] ([(0,.int .u8 (v 1))]) [] [] [] 7 [] [0,3] [.inRegion (opsOf (EU 6)) [1,2,3,4,5,6,7,8,9,10,11,12,13,14,15,16,17,18],.code .ret] [.int .u8 (v 1),.int .u8 (v 1)] []:={}
theorem af0:di 21 (opsOf (EU 6)) 1 [(3,.bC 3)] 71 [.bC 3] 4:={}
noncomputable abbrev OX:List Item:=[.inRegion (opsOf (EU 6)) [2,3,4,5,6,7,8,9,10,11,12,13,14,15,16,17,18],.code .ret]
theorem af1:Pc 72 21 OX ([(0,.int .u8 (v 1)),(4,TB)]) [] [] [] 18 [] [2] [.code .ret] [TB] []:={}
theorem af2:Pc 72 21 OX ([(0,.int .u8 (v 1)),(4,FB)]) [((.cmp .geq (v 1) (.lit 65)),true),((.cmp .leq (v 1) (.lit 90)),true)] [] [] 18 [] [2] [.code .ret] [TB] []:={}
noncomputable abbrev Qp:List Item:=[.inRegion (opsOf (EU 6)) [12,13,14,15,16,17,18],.code .ret]
theorem af3:Pc 72 21 OX ([(0,.int .u8 (v 1)),(4,FB)]) [((.cmp .geq (v 1) (.lit 65)),true),((.cmp .leq (v 1) (.lit 90)),false)] [] [] 10 [] [0,13,14] Qp [.int .u8 (v 1),FB,.int .u8 (v 1)] []:={}
theorem af4:Pc 72 21 OX ([(0,.int .u8 (v 1)),(4,FB)]) [((.cmp .geq (v 1) (.lit 65)),false)] [] [] 10 [] [0,13,14] Qp [.int .u8 (v 1),FB,.int .u8 (v 1)] []:={}
theorem af5:di 21 (opsOf (EU 6)) 12 [(13,FB),(14,.bC 14)] 90 [.bC 14] 15:={}
noncomputable abbrev Mx:List Item:=[.inRegion (opsOf (EU 6)) [13,14,15,16,17,18],.code .ret]
theorem af6:Pc 72 21 Mx ([(0,.int .u8 (v 1)),(13,FB),(15,TB)]) [] [] [] 7 [] [2] [.code .ret] [TB] []:={}
theorem af7:Pc 72 21 Mx ([(0,.int .u8 (v 1)),(13,FB),(15,FB)]) [((.cmp .eql (v 1) (.lit 95)),true)] [] [] 7 [] [2] [.code .ret] [TB] []:={}
theorem af8:Pc 72 21 Mx ([(0,.int .u8 (v 1)),(13,FB),(15,FB)]) [((.cmp .eql (v 1) (.lit 95)),false)] [] [] 7 [] [2] [.code .ret] [FB] []:={}
noncomputable def aq2(l:Nat):Code:=pc (bD Tryz.f73) (pd l)
theorem Tn:bP Tryz.prog 73 [] .normal=.ok ⟨73,2,c8 73 [],[.code (bD Tryz.f73)],[],.run,.normal⟩:=by kernel_rfl
theorem To:dP 73 2 0:=fun st=>by kernel_rfl
theorem af9:Pc 73 2 [.code (bD Tryz.f73)] ([]) [] [] [] 9 [100] [0] [.code .ret] [.slice (some (eD 100 0)) (.lit 11) (.lit 11)] [(100,.cells [.str ⟨#[108,101,116]⟩,.str ⟨#[111,117,116]⟩,.str ⟨#[114,97,99,101]⟩,.str ⟨#[99,97,110,99,101,108]⟩,.str ⟨#[97,108,108]⟩,.str ⟨#[102,105,114,115,116]⟩,.str ⟨#[119,104,101,110]⟩,.str ⟨#[102,97,105,108]⟩,.str ⟨#[112,97,110,105,99]⟩,.str ⟨#[109,101,109,111]⟩,.str ⟨#[98,117,114,110]⟩] 9)]:={}
noncomputable def gY(l:Nat):Code:=pc (bD Tryz.f49) (pd l)
theorem Tp:bP Tryz.prog 49 [.bC 0] .normal=.ok ⟨49,44,c8 49 [.bC 0],[.code (bD Tryz.f49)],[],.run,.normal⟩:=by kernel_rfl
theorem uh:dP 49 44 2:=fun st=>by kernel_rfl
theorem af_:Pc 49 44 [.code (bD Tryz.f49)] ([(0,ss 1)]) [((.cmp .lss (.jj (.var 1)) (.lit 1)),true)] [] [] 27 [] [2] [.code .ret,.code (gY 7)] [FB] []:={}
theorem af':Pc 49 44 [.code (bD Tryz.f49)] ([(0,ss 1)]) WQ [] [] 27 [] [2] [.code .ret,.code (gY 7)] [FB] []:={}
theorem aga:Pc 49 44 [.code (bD Tryz.f49)] ([(0,ss 1)]) WR [] [] 17 [] [0,14,15] [.inRegion (opsOf (gY 12)) [10,11,12,13],.code (gY 13),.code (gY 7)] [ss 1,FB,ss 1] []:={}
theorem agb:jO 44 (opsOf (gY 12)) 10 [(14,FB)] (.index 9 (.tmp 15) (.const (.int .i64 0))) 5 (some 16):={}
theorem agc:di 44 (opsOf (gY 12)) 11 [(14,FB),(16,.bC 16)] 71 [.bC 16] 17:={}
noncomputable abbrev Qq:List Item:=[.inRegion (opsOf (gY 12)) [12,13],.code (gY 13),.code (gY 7)]
theorem ZM:Pc 49 44 Qq ([(0,ss 1),(14,FB),(17,FB)]) [] [] [] 8 [] [2] [.code .ret,.code (gY 7)] [FB] []:={}
noncomputable abbrev CY:List Item:=[.code (gY 116),.inLoop (gY 116),.inBlock 0,.code (gY 15)]
theorem ZN:Pc 49 44 Qq ([(0,ss 1),(14,FB),(17,TB)]) [] [] [] 12 [] [0,3] CY [ss 1,i64 (.lit 0)] []:={}
theorem agd:Pc 49 44 CY ([(0,ss 1),(3,i64 (v 6))]) [((.cmp .lss (v 6) (.jj (.var 1))),true)] [] [] 16 [] [0,3,26,27] [.inRegion (opsOf (gY 1864)) [2,3,4],.code (gY 1865),.inBlock 1,.code (gY 467),.inLoop (gY 116),.inBlock 0,.code (gY 15)] [ss 1,i64 (v 6),ss 1,i64 (v 6)] []:={}
theorem age:jO 44 (opsOf (gY 1864)) 2 [] (.index 9 (.tmp 26) (.tmp 27)) 5 (some 28):={}
theorem agf:di 44 (opsOf (gY 1864)) 3 [(28,.bC 28)] 72 [.bC 28] 29:={}
noncomputable abbrev ZO:List Item:=[.inRegion (opsOf (gY 1864)) [4],.code (gY 1865),.inBlock 1,.code (gY 467),.inLoop (gY 116),.inBlock 0,.code (gY 15)]
theorem agh:Pc 49 44 ZO ([(0,ss 1),(3,i64 (v 6)),(29,TB)]) [] [] [] 11 [] [0,3] CY [ss 1,i64 (.op .add .i64 (v 6) (.lit 1))] []:={}
theorem agi:Pc 49 44 ZO ([(0,ss 1),(3,i64 (v 6)),(29,FB)]) [] [] [] 7 [] [2] [.code .ret,.inBlock 1,.code (gY 467),.inLoop (gY 116),.inBlock 0,.code (gY 15)] [FB] []:={}
theorem agj:Pc 49 44 CY ([(0,ss 1),(3,i64 (v 6))]) [((.cmp .lss (v 6) (.jj (.var 1))),false)] [] [] 12 [] [0] [.inRegion (opsOf (gY 30)) [0,1],.code (gY 31)] [ss 1] []:={}
theorem agk:di 44 (opsOf (gY 30)) 0 [] 73 [] 31:={}
noncomputable abbrev zN:List Item:=[.code (gY 500),.inLoop (gY 500),.inBlock 2,.code (gY 63)]
theorem agl:Pc 49 44 [.inRegion (opsOf (gY 30)) [1],.code (gY 31)] ([(0,ss 1),(31,.bC 31)]) [] [] [] 9 [] [0,4,5] zN [ss 1,.bC 31,i64 (.lit 0)] []:={}
noncomputable abbrev My:List (AA×AV):=[(eC 80 83 10,.ss (.var 2))]
theorem agm:Pc 49 44 zN ([(0,ss 1),(4,sA 80 83 81 82),(5,i64 (v 10))]) (fN 10 81++[((.seq false (.var 2) (.var 1)),true)]) My [] 26 [] [2] [.code .ret,.inBlock 3,.code (gY 2003),.inLoop (gY 500),.inBlock 2,.code (gY 63)] [FB] []:={}
theorem agn:Pc 49 44 zN ([(0,ss 1),(4,sA 80 83 81 82),(5,i64 (v 10))]) (fN 10 81++[((.seq false (.var 2) (.var 1)),false)]) My [] 30 [] [0,4,5] zN [ss 1,sA 80 83 81 82,i64 (.op .add .i64 (v 10) (.lit 1))] []:={}
theorem ago:Pc 49 44 zN ([(0,ss 1),(4,sA 80 83 81 82),(5,i64 (v 10))]) [((.cmp .lss (v 10) (.tn (v 81))),false)] [] [] 14 [] [2] [.code .ret] [TB] []:={}
noncomputable def Jd(l:Nat):Code:=pc (bD Tryz.f50) (pd l)
theorem Tq:bP Tryz.prog 50 [.bC 0,.bC 1] .normal=.ok ⟨50,22,c8 50 [.bC 0,.bC 1],[.code (bD Tryz.f50)],[],.run,.normal⟩:=by kernel_rfl
theorem Mz:dP 50 22 4:=fun st=>by kernel_rfl
noncomputable abbrev zO:List Item:=[.code (Jd 52),.inLoop (Jd 52),.inBlock 0,.code (Jd 7)]
theorem agp(z:Bool):Pc 50 22 [.code (bD Tryz.f50)] ([(0,.agg [cG z 50 53 51 52,.bC 9]),(1,ss 1)]) [] [] [] 12 [100] [1,2,5] zO [ss 1,bz 100,i64 (.lit 0)] [(100,.cells [cG z 50 53 51 52,.bC 9] 25)]:=by cases z<;>exact{}
noncomputable abbrev MA:List (AA×AV):=[(eD 64 0,sA 50 53 51 52),(eB 50 53 10 3,.ss (.var 2))]
theorem agq:Pc 50 22 zO ([(1,ss 1),(2,bz 64),(5,i64 (v 10))]) (fN 10 51++[((.seq false (.var 2) (.var 1)),true)]) MA [] 30 [] [4] [.code .ret,.inBlock 1,.code (Jd 211),.inLoop (Jd 52),.inBlock 0,.code (Jd 7)] [i64 (v 10)] []:={}
theorem agr:Pc 50 22 zO ([(1,ss 1),(2,bz 64),(5,i64 (v 10))]) (fN 10 51++[((.seq false (.var 2) (.var 1)),false)]) MA [] 33 [] [1,2,5] zO [ss 1,bz 64,i64 (.op .add .i64 (v 10) (.lit 1))] []:={}
theorem ags(z:Bool):Pc 50 22 zO ([(1,ss 1),(2,bz 64),(5,i64 (v 10))]) [((.cmp .lss (v 10) (dL z 51)),false)] [(eD 64 0,cG z 50 53 51 52)] [] 15 [] [4] [.code .ret] [i64 (.lit (-1))] []:=by cases z<;>exact{}
noncomputable def Je(l:Nat):Code:=pc (bD Tryz.f74) (pd l)
theorem EV:bP Tryz.prog 74 [.bC 0,.bC 1] .normal=.ok ⟨74,45,c8 74 [.bC 0,.bC 1],[.code (bD Tryz.f74)],[],.run,.normal⟩:=by kernel_rfl
theorem uj:dP 74 45 4:=fun st=>by kernel_rfl
noncomputable abbrev qL:List Item:=[.code (Je 56),.inLoop (Je 56),.inBlock 0,.code (Je 15)]
theorem ZP(z:Bool):Pc 74 45 [.code (bD Tryz.f74)] ([(0,cG z 50 53 51 52),(1,i64 (v 10))]) [] [] [] 11 [] [0,1,5] qL [cG z 50 53 51 52,i64 (v 10),i64 (.lit 1)] []:=by cases z<;>exact{}
noncomputable abbrev GQ:List (AA×AV):=[(eA 50 53 10 4 2,i64 (v 12))]
theorem agt:Pc 74 45 qL ([(0,sA 50 53 51 52),(1,i64 (v 10)),(5,i64 (v 11))]) (((.cmp .gtr (v 11) (.lit 0)),true)::(fN 10 51++[((.cmp .lss (v 12) (.lit 0)),false),((.cmp .gtr (v 12) (.tn (v 51))),false)])) GQ [] 60 [] [0,1,5] qL [sA 50 53 51 52,i64 (.op .add .i64 (v 10) (.lit 1)),i64 (.op .add .i64 (.op .sub .i64 (v 11) (.lit 1)) (v 12))] []:={}
noncomputable abbrev OY:List Item:=[.code .ret,.code (Je 453),.inBlock 1,.inLoop (Je 56),.inBlock 0,.code (Je 15)]
theorem ZQ(z:Bool):Pc 74 45 qL ([(0,cG z 50 53 51 52),(1,i64 (v 10)),(5,i64 (v 11))]) [((.cmp .gtr (v 11) (.lit 0)),true),((.cmp .lss (v 10) (.lit 0)),false),((.cmp .geq (v 10) (dL z 51)),true)] [] [] 44 [] [4] OY [i64 (.lit (-1))] []:=by cases z<;>exact{}
theorem agu:Pc 74 45 qL ([(0,sA 50 53 51 52),(1,i64 (v 10)),(5,i64 (v 11))]) (((.cmp .gtr (v 11) (.lit 0)),true)::(fN 10 51++[((.cmp .lss (v 12) (.lit 0)),true)])) GQ [] 44 [] [4] OY [i64 (.lit (-1))] []:={}
theorem agv:Pc 74 45 qL ([(0,sA 50 53 51 52),(1,i64 (v 10)),(5,i64 (v 11))]) (((.cmp .gtr (v 11) (.lit 0)),true)::(fN 10 51++[((.cmp .lss (v 12) (.lit 0)),false),((.cmp .gtr (v 12) (.tn (v 51))),true)])) GQ [] 44 [] [4] OY [i64 (.lit (-1))] []:={}
theorem agw(z:Bool):Pc 74 45 qL ([(0,cG z 50 53 51 52),(1,i64 (v 10)),(5,i64 (v 11))]) [((.cmp .gtr (v 11) (.lit 0)),false)] [] [] 13 [] [4] [.code .ret] [i64 (v 10)] []:=by cases z<;>exact{}
noncomputable def vc(l:Nat):Code:=pc (bD Tryz.f75) (pd l)
theorem Tr:bP Tryz.prog 75 [.bC 0,.bC 1] .normal=.ok ⟨75,27,c8 75 [.bC 0,.bC 1],[.code (bD Tryz.f75)],[],.run,.normal⟩:=by kernel_rfl
theorem Ts:dP 75 27 4:=fun st=>by kernel_rfl
noncomputable abbrev zP:List Item:=[.code (vc 244),.inLoop (vc 244),.inBlock 0,.code (vc 31)]
theorem agx:Pc 75 27 [.code (bD Tryz.f75)] ([(0,sA 50 53 51 52),(1,i64 (v 10))]) [] [] [] 21 [] [0,1,5,6,7] zP [sA 50 53 51 52,i64 (v 10),cj,i64 (.op .add .i64 (v 10) (.lit 1)),i64 (.lit 0)] []:={}
noncomputable abbrev Tt:List Item:=[.inRegion (opsOf (vc 3913)) [2,3],.inBlock 1,.code (vc 979),.inLoop (vc 244),.inBlock 0,.code (vc 31)]
noncomputable abbrev MB:List (AA×AV):=[(eA 50 53 10 4 2,i64 (v 13))]
theorem ZR:Pc 75 27 zP ([(0,sA 50 53 51 54),(1,i64 (v 10)),(5,cj),(6,i64 (v 11)),(7,i64 (v 9))]) (fN 10 51++[((.cmp .lss (v 9) (v 13)),true)]) MB [] 26 [101] [0,1,5,7,23,24] Tt [sA 50 53 51 54,i64 (v 10),.slice (some (eD 101 0)) (.lit 1) (v 101),i64 (v 9),sA 50 53 51 54,i64 (v 11)] [(101,.row [i64 (v 11)] 3 (v 101))]:={}
theorem agy:Pc 75 27 zP ([(0,sA 50 53 51 54),(1,i64 (v 10)),(5,.slice (some (eD 52 0)) (v 8) (v 57)),(6,i64 (v 11)),(7,i64 (v 9))]) (fN 10 51++XN) MB [(52,.pre false 65 (v 8) [] [] [] 3 (v 57))] 26 [101] [0,1,5,7,23,24] Tt [sA 50 53 51 54,i64 (v 10),.slice (some (eD 101 0)) (.plus (.tn (v 8)) (.lit 1)) (v 101),i64 (v 9),sA 50 53 51 54,i64 (v 11)] [(101,.pre false 65 (v 8) [] [] [i64 (v 11)] 3 (v 101))]:={}
theorem agz:di 27 (opsOf (vc 3913)) 2 [(23,.bC 23),(24,.bC 24)] 74 [.bC 23,.bC 24] 25:={}
theorem agA:Pc 75 27 [.inRegion (opsOf (vc 3913)) [3],.inBlock 1,.code (vc 979),.inLoop (vc 244),.inBlock 0,.code (vc 31)] ([(0,.bC 0),(1,i64 (v 10)),(5,.bC 5),(7,i64 (v 9)),(25,i64 (v 12))]) [] [] [] 9 [] [0,1,5,6,7] zP [.bC 0,i64 (v 10),.bC 5,i64 (v 12),i64 (.op .add .i64 (v 9) (.lit 1))] []:={}
theorem agB:Pc 75 27 zP ([(0,sA 50 53 51 54),(1,i64 (v 10)),(5,.bC 5),(6,i64 (v 11)),(7,i64 (v 9))]) (fN 10 51++[((.cmp .lss (v 9) (v 13)),false)]) MB [] 18 [] [4] [.code .ret] [.bC 5] []:={}
noncomputable def kg(l:Nat):Code:=pc (bD Tryz.f103) (pd l)
theorem OZ:bP Tryz.prog 103 [.bC 0,.bC 1] .normal=.ok ⟨103,19,c8 103 [.bC 0,.bC 1],[.code (bD Tryz.f103)],[],.run,.normal⟩:=by kernel_rfl
theorem vr:dP 103 19 4:=fun st=>by kernel_rfl
theorem agC:Pc 103 19 [.code (bD Tryz.f103)] ([(0,i8 (v 1)),(1,i64 (v 10))]) [] [] [] 8 [] [1,5] [.inRegion (opsOf (kg 12)) [1],.code (kg 13),.code (kg 7)] [i64 (v 10),i8 (v 1)] []:={}
theorem agD:di 19 (opsOf (kg 12)) 1 [(5,.bC 5)] 76 [.bC 5] 6:={}
noncomputable abbrev GR:List Item:=[.inRegion (opsOf (kg 12)) [],.code (kg 13),.code (kg 7)]
theorem agE:Pc 103 19 GR ([(1,i64 (v 10)),(6,i64 (.lit 1))]) [] [] [] 11 [] [9] [.inRegion (opsOf (kg 212)) [1,2,3],.code .ret,.inBlock 0,.code (kg 7)] [i64 (v 10)] []:={}
theorem agF:jO 19 (opsOf (kg 212)) 1 [] (.call {callee:=.builtin .min,args:=#[.tmp 9,.const (.int .i64 1)],argTypes:=#[3,3]}) 3 (some 10):={}
noncomputable abbrev MC:List Item:=[.code .ret,.inBlock 0,.code (kg 7)]
theorem agG:Pc 103 19 [.inRegion (opsOf (kg 212)) [2,3],.code .ret,.inBlock 0,.code (kg 7)] ([(10,i64 (v 11))]) [] [] [] 3 [] [4] MC [i64 (.op .add .i64 (.lit 1) (v 11))] []:={}
theorem agH:Pc 103 19 GR ([(1,i64 (v 10)),(6,i64 (.lit 2))]) [] [] [] 17 [] [14] [.inRegion (opsOf (kg 860)) [1,2,3],.code .ret,.inBlock 0,.code (kg 7)] [i64 (v 10)] []:={}
theorem agI:jO 19 (opsOf (kg 860)) 1 [] (.call {callee:=.builtin .min,args:=#[.tmp 14,.const (.int .i64 1)],argTypes:=#[3,3]}) 3 (some 15):={}
theorem agJ:Pc 103 19 [.inRegion (opsOf (kg 860)) [2,3],.code .ret,.inBlock 0,.code (kg 7)] ([(15,i64 (v 11))]) [] [] [] 3 [] [4] MC [i64 (.op .add .i64 (.lit 2) (v 11))] []:={}
theorem agK:Pc 103 19 GR ([(6,i64 (.lit 3))]) [] [] [] 24 [] [4] MC [i64 (.lit 3)] []:={}
theorem agL:Pc 103 19 GR ([(6,i64 (.lit 4))]) [] [] [] 26 [] [4] [.code .ret] [i64 (.lit 1)] []:={}
noncomputable def uk(l:Nat):Code:=pc (bD Tryz.f78) (pd l)
theorem Tu:bP Tryz.prog 78 [.bC 0,.bC 1,.bC 2,.bC 3,.bC 4] .normal=.ok ⟨78,24,c8 78 [.bC 0,.bC 1,.bC 2,.bC 3,.bC 4],[.code (bD Tryz.f78)],[],.run,.normal⟩:=by kernel_rfl
theorem Tv:dP 78 24 10:=fun st=>by kernel_rfl
theorem agM:Pc 78 24 [.code (bD Tryz.f78)] ([(0,.bC 0),(1,i64 (v 10)),(2,i64 (v 11)),(3,i64 (v 12)),(4,i64 (v 13))]) [] [] [] 11 [] [0,3,4,11,12,13,14] [.inRegion (opsOf (uk 12)) [4],.code (uk 13),.code (uk 7)] [.bC 0,i64 (v 12),i64 (v 13),.bC 0,i64 (v 10),i64 (v 11),i64 (v 12)] []:={}
theorem agN:di 24 (opsOf (uk 12)) 4 [(11,.bC 11),(12,.bC 12),(13,.bC 13),(14,.bC 14)] 91 [.bC 11,.bC 12,.bC 13,.bC 14] 15:={}
noncomputable abbrev Qr:List Item:=[.inRegion (opsOf (uk 12)) [],.code (uk 13),.code (uk 7)]
theorem agO:Pc 78 24 Qr ([(0,.bC 0),(3,i64 (v 12)),(4,i64 (v 13)),(15,TB)]) [] [] [] 13 [] [18,19,20,21] [.inRegion (opsOf (uk 14)) [4,5,6],.code .ret] [i64 (.op .add .i64 (v 13) (.lit 1)),.bC 0,i64 (v 12),i64 (.op .add .i64 (v 13) (.lit 1))] []:={}
theorem agP:Pc 78 24 Qr ([(0,.bC 0),(3,i64 (v 12)),(4,i64 (v 13)),(15,FB)]) [] [] [] 9 [] [18,19,20,21] [.inRegion (opsOf (uk 14)) [4,5,6],.code .ret] [i64 (v 13),.bC 0,i64 (v 12),i64 (v 13)] []:={}
theorem agQ:di 24 (opsOf (uk 14)) 4 [(19,.bC 19),(20,.bC 20),(21,.bC 21)] 53 [.bC 19,.bC 20,.bC 21] 22:={}
theorem agR:jO 24 (opsOf (uk 14)) 5 [] (.call {callee:=.builtin .max,args:=#[.tmp 18,.tmp 22],argTypes:=#[3,3]}) 3 (some 23):={}
theorem agS:Pc 78 24 [.inRegion (opsOf (uk 14)) [6],.code .ret] ([(23,.bC 23)]) [] [] [] 2 [] [10] [.code .ret] [.bC 23] []:={}
noncomputable def iE(l:Nat):Code:=pc (bD Tryz.f53) (pd l)
theorem Tw:bP Tryz.prog 53 [.bC 0,.bC 1,.bC 2] .normal=.ok ⟨53,66,c8 53 [.bC 0,.bC 1,.bC 2],[.code (bD Tryz.f53)],[],.run,.normal⟩:=by kernel_rfl
theorem EW:dP 53 66 6:=fun st=>by kernel_rfl
noncomputable abbrev Tx:List (AA×AV):=[(eB 50 53 10 4,i8 (v 1)),(eA 50 53 10 4 1,i64 (v 2)),(eA 50 53 10 4 2,i64 (v 3)),(eA 50 53 10 4 3,i64 (v 4))]
theorem agT:Pc 53 66 [.code (bD Tryz.f53)] ([(0,sA 50 53 51 52),(1,i64 (v 10)),(2,i64 (v 11))]) (fN 10 51) Tx [] 17 [100] [0,1,2,7,18,19] [.inRegion (opsOf (iE 14)) [2,3],.code (iE 15)] [sA 50 53 51 52,i64 (v 10),i64 (v 11),bz 100,sA 50 53 51 52,i64 (v 10)] [(100,.cells [i8 (v 1),i64 (v 2),i64 (v 3),i64 (v 4)] 77)]:={}
theorem agU:di 66 (opsOf (iE 14)) 2 [(18,.bC 18),(19,.bC 19)] 75 [.bC 18,.bC 19] 20:={}
theorem agV:Pc 53 66 [.inRegion (opsOf (iE 14)) [3],.code (iE 15)] ([(0,.bC 0),(1,i64 (v 10)),(2,i64 (v 11)),(7,bz 64),(20,.bC 20)]) [] [(eD 64 0,i8 (v 1))] [] 6 [] [0,1,2,8,22] [.inRegion (opsOf (iE 30)) [2,3],.code (iE 31)] [.bC 0,i64 (v 10),i64 (v 11),.bC 20,i8 (v 1)] []:={}
theorem agW:di 66 (opsOf (iE 30)) 2 [(22,.bC 22)] 76 [.bC 22] 23:={}
noncomputable abbrev ZS:List Item:=[.inRegion (opsOf (iE 500)) [3,4,5,6,7,8],.code (iE 501),.code (iE 63)]
noncomputable abbrev CZ:List Item:=[.inRegion (opsOf (iE 30)) [3],.code (iE 31)]
theorem agX:Pc 53 66 CZ ([(0,.bC 0),(1,i64 (v 10)),(2,i64 (v 11)),(8,.bC 8),(23,i64 (.lit 1))]) [] [] [] 18 [] [31,32,33] ZS [.bC 0,i64 (v 10),i64 (v 11)] []:={}
theorem agY:Pc 53 66 CZ ([(0,.bC 0),(1,i64 (v 10)),(2,i64 (v 11)),(8,.bC 8),(23,i64 (.lit 2))]) [] [] [] 18 [] [31,32,33] ZS [.bC 0,i64 (v 10),i64 (v 11)] []:={}
theorem agZ:di 66 (opsOf (iE 500)) 3 [(31,.bC 31),(32,.bC 32),(33,.bC 33)] 77 [.bC 31,.bC 32,.bC 33] 34:={}
theorem ag0:Pc 53 66 [.inRegion (opsOf (iE 500)) [4,5,6,7,8],.code (iE 501),.code (iE 63)] ([(34,.tuple [i64 (v 12),i64 (v 13)])]) [] [] [] 11 [] [6] [.code .ret,.code (iE 63)] [i64 (v 12)] []:={}
noncomputable abbrev uS:List Item:=[.code (iE 4084),.inLoop (iE 4084),.inBlock 0,.code (iE 511)]
theorem ag1:Pc 53 66 CZ ([(0,.bC 0),(1,i64 (v 10)),(2,i64 (v 11)),(8,.bC 8),(23,i64 (.lit 3))]) [] [] [] 43 [] [0,1,2,8,12,13] uS [.bC 0,i64 (v 10),i64 (.op .add .i64 (v 11) (.lit 1)),.bC 8,i64 (.op .add .i64 (v 11) (.lit 1)),i64 (.lit 0)] []:={}
theorem ag2:Pc 53 66 CZ ([(0,.bC 0),(1,i64 (v 10)),(2,i64 (v 11)),(8,sA 80 83 81 82),(23,i64 (.lit 4))]) [((.cmp .gtr (.tn (v 81)) (.lit 0)),true)] [] [] 43 [] [0,1,2,8,12,13] uS [.bC 0,i64 (v 10),i64 (.op .add .i64 (v 11) (.lit 1)),sA 80 83 81 82,i64 (.op .add .i64 (v 11) (.lit 1)),i64 (.lit 0)] []:={}
theorem ag3:Pc 53 66 CZ ([(0,.bC 0),(1,i64 (v 10)),(2,i64 (v 11)),(8,cj),(23,i64 (.lit 4))]) [] [] [] 39 [] [0,1,2,8,12,13] uS [.bC 0,i64 (v 10),i64 (v 11),cj,i64 (v 11),i64 (.lit 0)] []:={}
noncomputable abbrev C0:List (AA×AV):=[(eC 80 83 15,i64 (v 16))]
theorem ag4:Pc 53 66 uS ([(0,.bC 0),(1,i64 (v 10)),(2,i64 (v 11)),(8,sA 80 83 81 82),(12,i64 (v 14)),(13,i64 (v 15))]) (fN 15 81) C0 [] 22 [] [0,1,2,8,12,13,54,55,56,57,61,62] [.inRegion (opsOf (iE 32676)) [9,10,11],.inBlock 1,.code (iE 16339),.inLoop (iE 4084),.inBlock 0,.code (iE 511)] [.bC 0,i64 (v 10),i64 (v 11),sA 80 83 81 82,i64 (v 14),i64 (v 15),i64 (v 14),.bC 0,i64 (v 10),i64 (v 15),i64 (v 16),i64 (v 11)] []:={}
theorem ag5:di 66 (opsOf (iE 32676)) 9 [(55,.bC 55),(56,.bC 56),(57,.bC 57),(61,.bC 61),(62,.bC 62)] 78 [.bC 55,.bC 56,.bC 57,.bC 61,.bC 62] 63:={}
theorem ag6:jO 66 (opsOf (iE 32676)) 10 [] (.call {callee:=.builtin .max,args:=#[.tmp 54,.tmp 63],argTypes:=#[3,3]}) 3 (some 64):={}
theorem ag7:Pc 53 66 [.inRegion (opsOf (iE 32676)) [11],.inBlock 1,.code (iE 16339),.inLoop (iE 4084),.inBlock 0,.code (iE 511)] ([(0,.bC 0),(1,i64 (v 10)),(2,i64 (v 11)),(8,.bC 8),(13,i64 (v 15)),(64,.bC 12)]) [] [] [] 9 [] [0,1,2,8,12,13] uS [.bC 0,i64 (v 10),i64 (v 11),.bC 8,.bC 12,i64 (.op .add .i64 (v 15) (.lit 1))] []:={}
abbrev MD:List (BE×Bool):=[((.cmp .lss (v 15) (.tn (v 81))),false)]
theorem ag8:Pc 53 66 uS ([(0,.bC 0),(1,i64 (v 10)),(2,i64 (v 11)),(8,sA 80 83 81 82),(12,i64 (v 14)),(13,i64 (v 15))]) MD [] [] 15 [] [6] [.code .ret] [i64 (v 14)] []:={}
theorem ag9:Pc 53 66 uS ([(0,.bC 0),(1,i64 (v 10)),(2,i64 (v 11)),(8,cj),(12,i64 (v 14)),(13,i64 (.lit 0))]) [] [] [] 15 [] [6] [.code .ret] [i64 (v 14)] []:={}
def Out(f:Nat)(cs:List Frame)(w0:World)(P:Value->World->Prop)(g':Goroutine)(w':World):Prop:=∃fr' v,g'=G fr' cs∧cV f fr' w' v∧bA w0 w'∧P v w'
section
variable {w w0:World}{cs:List Frame}{fr:Frame}{fn nt n d:Nat}{todo:List Item}{lA:List (Nat×AV)}{lv:List (Nat×Value)}{bs:List (BE×Bool)}{mem:List (AA×AV)}{post:List (Nat×bO)}{ks:List Nat}
theorem Pc.out{k:List Item}{a:AV}{Q:Value->World->Prop}(P:Pc fn nt todo lA bs mem [] n ks [d] (.code .ret::k) [a] post)(R:dP fn nt d)(ρ:Env)(hf:FA fn nt todo [] .normal lv fr)(hl:fT lv (told ρ lA))(hb:cr ρ bs)(hm:cw ρ w mem)(fw:bA w0 w)(hq:∀I B w',bA w w'->Q (a.ev (cQ ρ I B)) w'):Goes (G fr cs) w (Out fn cs w0 Q):=by
 refine(P.go ρ hf hl hb hm).trans fun g1 w1 hd=>?_;obtain⟨I,B,bT,rfl,f1,F1,_⟩:=hd;refine(leave1 R F1 (x:=a.ev (cQ ρ I B)) (by show fP d [(d,a.ev (cQ ρ I B))]=_;unfold fP;rw[Nat.beq_refl];rfl)).mono fun g2 w2 bX=>?_
 obtain⟨cB,rfl,rfl,hL⟩:=bX;exact⟨cB,_,rfl,hL,fw.trans f1,hq I B _ f1⟩
theorem Goes.jy{f:FuncId}{args:Array Value}{Q:Value->World->Prop}(h:∀cs,Goes (G (Frame.enter Tryz.prog f args .normal) cs) w (Out f cs w Q)):dS f args w fun v w'=>bA w w'∧Q v w':=cF fun cs=>(h cs).mono fun g' w' hd=>hd
end
section
variable {w w0:World}{cs:List Frame}{fr:Frame}
theorem n5{op:Int}:dS 76 #[cY op] w fun v w'=>bA w w'∧v=iV (ck op):=by
 have E:=cz Te rfl (cY op);have no:∀{n:Int},op≠n->(decide (op=n))=false:=fun h=>decide_eq_false h;unfold ck;by_cases h4:op=4
 ·subst h4;exact(afM.jy xQ (bL [(1,4)] [] []) E rfl ⟨rfl,trivial⟩ trivial).mono fun v w' ⟨f,I,B,e,_⟩=>⟨f,e⟩
 by_cases h5:op=5
 ·subst h5;exact(afN.jy xQ (bL [(1,5)] [] []) E rfl ⟨rfl,rfl,trivial⟩ trivial).mono fun v w' ⟨f,I,B,e,_⟩=>⟨f,e⟩
 by_cases h6:op=6
 ·subst h6;exact(afO.jy xQ (bL [(1,6)] [] []) E rfl ⟨rfl,rfl,rfl,trivial⟩ trivial).mono fun v w' ⟨f,I,B,e,_⟩=>⟨f,e⟩
 by_cases h3:op=3
 ·subst h3;exact(afP.jy xQ (bL [(1,3)] [] []) E rfl ⟨rfl,rfl,rfl,rfl,trivial⟩ trivial).mono fun v w' ⟨f,I,B,e,_⟩=>⟨f,e⟩
 rw[if_neg h4,if_neg h5,if_neg h6,if_neg h3];exact(afQ.jy xQ (bL [(1,op)] [] []) E rfl ⟨no h4,no h5,no h6,no h3,trivial⟩ trivial).mono fun v w' ⟨f,I,B,e,_⟩=>⟨f,e⟩
theorem zQ{op:Int}:dS 52 #[cY op] w fun v w'=>bA w w'∧v=iV (bQ op):=by
 have no:∀{n:Int},op≠n->(decide (op=n))=false:=fun h=>decide_eq_false h;by_cases h1:op=1
 ·subst h1;exact(afS.jy jh (bL [] [] []) (cz jg rfl (cY 1)) rfl trivial trivial).mono fun v w' ⟨f,I,B,e,_⟩=>⟨f,e⟩
 by_cases h2:op=2
 ·subst h2;exact(afT.jy jh (bL [] [] []) (cz jg rfl (cY 2)) rfl trivial trivial).mono fun v w' ⟨f,I,B,e,_⟩=>⟨f,e⟩
 by_cases h3:op=3
 ·subst h3;exact(afU.jy jh (bL [] [] []) (cz jg rfl (cY 3)) rfl trivial trivial).mono fun v w' ⟨f,I,B,e,_⟩=>⟨f,e⟩
 by_cases Ew:op=13
 ·subst Ew;exact(ZD.jy jh (bL [] [] []) (cz jg rfl (cY 13)) rfl trivial trivial).mono fun v w' ⟨f,I,B,e,_⟩=>⟨f,e⟩
 by_cases Iz:op=14
 ·subst Iz;exact(ZE.jy jh (bL [] [] []) (cz jg rfl (cY 14)) rfl trivial trivial).mono fun v w' ⟨f,I,B,e,_⟩=>⟨f,e⟩
 by_cases Lz:op=15
 ·subst Lz;exact(ZF.jy jh (bL [] [] []) (cz jg rfl (cY 15)) rfl trivial trivial).mono fun v w' ⟨f,I,B,e,_⟩=>⟨f,e⟩
 by_cases On:op=16
 ·subst On;exact(ZG.jy jh (bL [] [] []) (cz jg rfl (cY 16)) rfl trivial trivial).mono fun v w' ⟨f,I,B,e,_⟩=>⟨f,e⟩
 by_cases LG:op=18
 ·subst LG;exact(ZH.jy jh (bL [] [] []) (cz jg rfl (cY 18)) rfl trivial trivial).mono fun v w' ⟨f,I,B,e,_⟩=>⟨f,e⟩
 by_cases h4:op=4
 ·subst h4;exact(afV.jy jh (bL [] [] []) (cz jg rfl (cY 4)) rfl trivial trivial).mono fun v w' ⟨f,I,B,e,_⟩=>⟨f,e⟩
 by_cases h5:op=5
 ·subst h5;exact(afW.jy jh (bL [] [] []) (cz jg rfl (cY 5)) rfl trivial trivial).mono fun v w' ⟨f,I,B,e,_⟩=>⟨f,e⟩
 by_cases h6:op=6
 ·subst h6;exact(afX.jy jh (bL [] [] []) (cz jg rfl (cY 6)) rfl trivial trivial).mono fun v w' ⟨f,I,B,e,_⟩=>⟨f,e⟩
 by_cases h12:op=12
 ·subst h12;exact(ZI.jy jh (bL [] [] []) (cz jg rfl (cY 12)) rfl trivial trivial).mono fun v w' ⟨f,I,B,e,_⟩=>⟨f,e⟩
 by_cases h10:op=10
 ·subst h10;exact(ZJ.jy jh (bL [] [] []) (cz jg rfl (cY 10)) rfl trivial trivial).mono fun v w' ⟨f,I,B,e,_⟩=>⟨f,e⟩
 by_cases h11:op=11
 ·subst h11;exact(ZK.jy jh (bL [] [] []) (cz jg rfl (cY 11)) rfl trivial trivial).mono fun v w' ⟨f,I,B,e,_⟩=>⟨f,e⟩
 by_cases Ou:op=17
 ·subst Ou;exact(ZL.jy jh (bL [] [] []) (cz jg rfl (cY 17)) rfl trivial trivial).mono fun v w' ⟨f,I,B,e,_⟩=>⟨f,e⟩
 have e0:bQ op=-2:=by simp[bQ, *]
 rw[e0];exact(afY.jy jh (bL [(1,op)] [] []) (cz jg rfl (cY op)) rfl ⟨no h1,no h2,no h3,no Ew,no Iz,no Lz,no On,no LG,no h4,no h5,no h6,no h12,no h10,no h11,no Ou,trivial⟩ trivial).mono fun v w' ⟨f,I,B,e,_⟩=>⟨f,e⟩
theorem xS{b:Nat}:dS 71 #[zo b] w fun v w'=>bA w w'∧v=.bool (decide ((b:Int)≥97)&&decide ((b:Int)≤122)):=
 ((Ti (decide ((b:Int)≥97)) (decide ((b:Int)≤122))).jy Tg (bL [(1,b)] [] []) (cz Tf rfl (zo b)) rfl ⟨rfl,rfl,trivial⟩ trivial).mono fun v w' ⟨f,I,B,e,_⟩=>⟨f,e⟩
theorem EX{b:Nat}:dS 90 #[zo b] w fun v w'=>bA w w'∧v=.bool (decide ((b:Int)≥48)&&decide ((b:Int)≤57)):=
 ((Tl (decide ((b:Int)≥48)) (decide ((b:Int)≤57))).jy Tk (bL [(1,b)] [] []) (cz Tj rfl (zo b)) rfl ⟨rfl,rfl,trivial⟩ trivial).mono fun v w' ⟨f,I,B,e,_⟩=>⟨f,e⟩
theorem C1{b:Nat}:dS 72 #[zo b] w fun v w'=>bA w w'∧v=.bool (fK b):=by
 refine Goes.jy fun cs=>?_;obtain⟨ρ,hρ⟩:∃ρ:Env,ρ=bL [(1,b)] [] []:=⟨_,rfl⟩;refine(afZ.go ρ (cz Tm rfl (zo b)) (by rw[hρ];rfl) trivial trivial).trans fun g1 w1 hd=>?_;obtain⟨I,B,bT,rfl,f1,F1,_⟩:=hd;rw[hρ]at F1;refine(af0.go (bL [] [] [(3,zo b)]) (Q:=fun v w'=>v=.bool (decide ((b:Int)≥97)&&decide ((b:Int)≤122))) F1 rfl fun w' f=>xS).trans fun g2 w2 bX=>?_;obtain⟨cB,v,rfl,f2,rfl,F2⟩:=bX;have f12:=f1.trans f2;unfold fK;cases e:(decide ((b:Int)≥97)&&decide ((b:Int)≤122))with
 |true=>rw[e]at F2;exact af1.out xR ρ F2 (by rw[hρ];rfl) trivial trivial f12 fun _ _ _ _=>rfl
 |false=>
  rw[e]at F2;have go:∀{w3:World} {cC:Frame},(decide ((b:Int)≥65)&&decide ((b:Int)≤90))=false->bA w w3->FA 72 21 (.inRegion (opsOf (EU 6)) [12,13,14,15,16,17,18]::[.code .ret]) [] .normal [(0,zo b),(13,.bool false),(14,zo b)] cC->Goes (G cC cs) w3 (Out 72 cs w fun v w'=>v=.bool (false||decide ((b:Int)≥65)&&decide ((b:Int)≤90)||decide ((b:Int)≥48)&&decide ((b:Int)≤57)||decide ((b:Int)=95))):=fun{w3 cC} h f3 F3=>by
   refine(af5.go (bL [] [] [(14,zo b)]) (Q:=fun v w'=>v=.bool (decide ((b:Int)≥48)&&decide ((b:Int)≤57))) F3 rfl fun w' f=>EX).trans fun g4 w4 c9=>?_;obtain⟨eg,v,rfl,f4,rfl,F4⟩:=c9;rw[h];cases e2:(decide ((b:Int)≥48)&&decide ((b:Int)≤57))with
   |true=>rw[e2]at F4;exact af6.out xR ρ F4 (by rw[hρ];rfl) trivial trivial (f3.trans f4) fun _ _ _ _=>rfl
   |false=>
    rw[e2]at F4;cases e3:decide ((b:Int)=95)with
    |true=>exact af7.out xR ρ F4 (by rw[hρ];rfl) ⟨by rw[hρ];exact e3,trivial⟩ trivial (f3.trans f4) fun _ _ _ _=>rfl
    |false=>exact af8.out xR ρ F4 (by rw[hρ];rfl) ⟨by rw[hρ];exact e3,trivial⟩ trivial (f3.trans f4) fun _ _ _ _=>rfl
  cases h1:decide ((b:Int)≥65)with
  |false=>refine(af4.go ρ F2 (by rw[hρ];rfl) ⟨by rw[hρ];exact h1,trivial⟩ trivial).trans fun g3 w3 cn=>?_;obtain⟨I,B,cC,rfl,f3,F3,_⟩:=cn;rw[hρ]at F3;rw[h1]at go;exact go rfl (f12.trans f3) F3
  |true=>
   cases h2:decide ((b:Int)≤90)with
   |true=>exact af2.out xR ρ F2 (by rw[hρ];rfl) ⟨by rw[hρ];exact h1,by rw[hρ];exact h2,trivial⟩ trivial f12 fun _ _ _ _=>rfl
   |false=>refine(af3.go ρ F2 (by rw[hρ];rfl) ⟨by rw[hρ];exact h1,by rw[hρ];exact h2,trivial⟩ trivial).trans fun g3 w3 cn=>?_;obtain⟨I,B,cC,rfl,f3,F3,_⟩:=cn;rw[hρ]at F3;rw[h1,h2]at go;exact go rfl (f12.trans f3) F3
end
noncomputable abbrev NmH:List Item:=CY
noncomputable abbrev NmW:List Item:=zN
noncomputable abbrev FdH:List Item:=zO
noncomputable abbrev BhH:List Item:=qL
noncomputable abbrev KiH:List Item:=zP
noncomputable abbrev KiT:List Item:=Tt
theorem ZT{ρ:Env}{a b:Nat}{x y:ByteArray}(ha:ρ.s a=x)(hb:ρ.s b=y):(BE.seq false (.var a) (.var b)).ev ρ=(x==y):=by rw[vR,<-ha,<-hb];rfl
section
variable {w w0:World}{cs:List Frame}{fr:Frame}
theorem EY:dS 73 #[] w fun v w'=>bA w w'∧∃A,v=bU A 0 11 11∧∀i p,jo[i]?=some p->w'.cell? ⟨A,i,none⟩=some (.string p.1):=
 (af9.jy To (bL [] [] []) (Ao Tn) rfl trivial trivial).mono fun v w' ⟨f,I,B,e,bl,_⟩=>⟨f,_,e,fun i p hp=>bE (cs:=jo.map fun p=>.string p.1) bl.1.2 (by rw[aL,hp];rfl)⟩
theorem GS{s:ByteArray}{A:Nat}(hc:∀i p,jo[i]?=some p->w0.cell? ⟨A,i,none⟩=some (.string p.1)):
  ∀(r:List (ByteArray×Bool)) (i:Nat) {w:World} {fr:Frame},jo.drop i=r->bA w0 w->i≤11->FA 49 44 NmW [] .normal [(0,.string s),(4,bU A 0 11 11),(5,iV i)] fr->
  Goes (G fr cs) w (Out 49 cs w0 fun v w'=>v=.bool (r.all fun p=>!(s==p.1)))
 |[],i,w,fr,hr,fw,hi,hf=>by have hlen:jo.length≤i:=aU.1 hr;have:jo.length=11:=rfl;exact ago.out uh (Go.Proofs.YtmobbajggkjpgaaGreat.SX.jn [(10,i),(81,11),(82,11),(83,0)] [(80,A)] [] [(1,s)]) hf rfl ⟨decide_eq_false (by show ¬((i:Int)<11);omega),trivial⟩ trivial fw fun _ _ _ _=>rfl
 |p::r,i,w,fr,hr,fw,hi,hf=>by
  obtain⟨hp,vl,hlt⟩:=dG hr;have:jo.length=11:=rfl;obtain⟨ρ,hρ⟩:∃ρ:Env,ρ=Go.Proofs.YtmobbajggkjpgaaGreat.SX.jn [(10,i),(81,11),(82,11),(83,0)] [(80,A)] [] [(1,s),(2,p.1)]:=⟨_,rfl⟩;have bb:=cg (ρ:=ρ) (i:=10) (n:=81) (I:=i) (N:=11) (by rw[hρ];rfl) (by rw[hρ];rfl) (by omega);have mm:cw ρ w My:=by rw[hρ];refine⟨?_,trivial⟩;show w.cell? ⟨A,0+i,none⟩=_;rw[aG];exact fw.cell (hc i p hp)
  have hb:(BE.seq false (.var 2) (.var 1)).ev ρ=(s==p.1):=by rw[ZT (x:=p.1) (y:=s) (by rw[hρ];rfl) (by rw[hρ];rfl),CW,CW];exact decide_eq_decide.2 ⟨fun h=>h.symm,fun h=>h.symm⟩
  rw[List.all_cons];cases e:s==p.1 with
  |true=>exact agm.out uh ρ hf (by rw[hρ];rfl) (cr.app bb ⟨by rw[hb,e],trivial⟩) mm fw fun _ _ _ _=>rfl
  |false=>refine(agn.go ρ hf (by rw[hρ];rfl) (cr.app bb ⟨by rw[hb,e],trivial⟩) mm).trans fun g1 w1 hd=>?_;obtain⟨I,B,bT,rfl,f1,F1,_⟩:=hd;rw[hρ]at F1;refine GS hc r (i+1) vl (fw.trans f1) (by omega) ?_;rw[<-inc (i:=i) (by omega)];exact F1
theorem EZ(s:ByteArray):(eT s jo).isNone=jo.all fun p=>!(s==p.1):=by
 have:∀l:List (ByteArray×Bool),(eT s l).isNone=l.all fun p=>!(s==p.1):=fun l=>by
  induction l with
  |nil=>rfl
  |cons p l ih=>
   unfold eT at ih⊢;rw[List.find?_cons,List.all_cons];cases e:s==p.1 with
   |true=>rfl
   |false=>exact ih
 exact this _
theorem C4{s:ByteArray}(hs:s.size≤32):∀(m j:Nat) {w:World} {fr:Frame},j+m=s.size->bA w0 w->FA 49 44 NmH [] .normal [(0,.string s),(3,iV j)] fr->
  Goes (G fr cs) w (Out 49 cs w0 fun v w'=>v=.bool ((List.range m).all (fun i=>fK (cX s (j+i)))&&(eT s jo).isNone))
 |0,j,w,fr,hj,fw,hf=>by refine(agj.go (Go.Proofs.YtmobbajggkjpgaaGreat.SX.jn [(6,j)] [] [] [(1,s)]) hf rfl ⟨decide_eq_false (by show ¬((j:Int)<((s.size:Nat):Int));omega),trivial⟩ trivial).trans fun g1 w1 hd=>?_;obtain⟨I,B,bT,rfl,f1,F1,_⟩:=hd;refine(agk.go (bL [] [] []) (Q:=fun v w'=>∃A,v=bU A 0 11 11∧∀i (p:ByteArray×Bool),jo[i]?=some p->w'.cell? ⟨A,i,none⟩=some (.string p.1)) F1 rfl fun w' f=>EY).trans fun g2 w2 bX=>?_;obtain⟨cB,v,rfl,f2,⟨A,rfl,hc⟩,F2⟩:=bX;refine(agl.go (Go.Proofs.YtmobbajggkjpgaaGreat.SX.jn [] [] [(31,bU A 0 11 11)] [(1,s)]) F2 rfl trivial trivial).trans fun g3 w3 cn=>?_;obtain⟨I,B,cC,rfl,f3,F3,_⟩:=cn;refine(GS (w0:=w3) (fun i p hp=>f3.cell (hc i p hp)) jo 0 rfl (bA.refl _) (by omega) F3).mono fun g4 w4 c9=>?_;obtain⟨eg,v,rfl,hL,f4,rfl⟩:=c9;exact⟨eg,_,rfl,hL,fw.trans (f1.trans (f2.trans (f3.trans f4))),by rw[EZ];rfl⟩
 |m+1,j,w,fr,hj,fw,hf=>by
  refine(agd.go (Go.Proofs.YtmobbajggkjpgaaGreat.SX.jn [(6,j)] [] [] [(1,s)]) hf rfl ⟨decide_eq_true (by show((j:Int)<((s.size:Nat):Int));omega),trivial⟩ trivial).trans fun g1 w1 hd=>?_;obtain⟨I,B,bT,rfl,f1,F1,_⟩:=hd;refine(sU (s:=s) (j:=j) age (bL [] [] []) F1 (by decide) rfl (by omega) fun tm ie=>⟨ie 26 _ rfl,ie 27 _ rfl⟩).trans fun g2 w2 bX=>?_;obtain⟨cB,rfl,rfl,F2⟩:=bX;refine(agf.go (bL [] [] [(28,zo (cX s j))]) (Q:=fun v w'=>v=.bool (fK (cX s j))) F2 rfl fun w' f1=>C1).trans fun g3 w3 cn=>?_;obtain⟨cC,v,rfl,f3,rfl,F3⟩:=cn;have hsplit:(List.range (m+1)).all (fun i=>fK (cX s (j+i)))=(fK (cX s j)&&(List.range m).all fun i=>fK (cX s (j+1+i))):=by rw[List.range_succ_eq_map,List.all_cons,List.all_map];congr 1;refine congrArg (List.all _) (funext fun i=>?_);show fK (cX s (j+(i+1)))=_;rw[show j+(i+1)=j+1+i by omega]
  rw[hsplit];cases e:fK (cX s j)with
  |false=>rw[e]at F3;exact agi.out uh (Go.Proofs.YtmobbajggkjpgaaGreat.SX.jn [(6,j)] [] [] [(1,s)]) F3 rfl trivial trivial (fw.trans (f1.trans f3)) fun _ _ _ _=>rfl
  |true=>rw[e]at F3;refine(agh.go (Go.Proofs.YtmobbajggkjpgaaGreat.SX.jn [(6,j)] [] [] [(1,s)]) F3 rfl trivial trivial).trans fun g4 w4 c9=>?_;obtain⟨I,B,eg,rfl,f4,F4,_⟩:=c9;refine C4 hs m (j+1) (by omega) (fw.trans (f1.trans (f3.trans f4))) ?_;rw[<-inc (i:=j) (by omega)];exact F4
theorem Jf{s:ByteArray}:dS 49 #[.string s] w fun v w'=>bA w w'∧v=.bool (gq s):=by
 refine Goes.jy fun cs=>?_;have E:=cz Tp rfl (.string s);by_cases h1:s.size<1
 ·refine af_.out uh (Go.Proofs.YtmobbajggkjpgaaGreat.SX.jn [] [] [] [(1,s)]) E rfl ⟨decide_eq_true (by show((s.size:Nat):Int)<1;omega),trivial⟩ trivial (bA.refl _) fun _ _ _ _=>?_;unfold gq;rw[decide_eq_false (by omega:¬1≤s.size)];rfl
 by_cases h2:s.size>32
 ·refine af'.out uh (Go.Proofs.YtmobbajggkjpgaaGreat.SX.jn [] [] [] [(1,s)]) E rfl ⟨decide_eq_false (by show ¬((s.size:Nat):Int)<1;omega),decide_eq_true (by show((s.size:Nat):Int)>32;omega),trivial⟩ trivial (bA.refl _) fun _ _ _ _=>?_;unfold gq;rw[decide_eq_false (by omega:¬s.size≤32),Bool.and_false];rfl
 refine(aga.go (Go.Proofs.YtmobbajggkjpgaaGreat.SX.jn [] [] [] [(1,s)]) E rfl ⟨decide_eq_false (by show ¬((s.size:Nat):Int)<1;omega),decide_eq_false (by show ¬((s.size:Nat):Int)>32;omega),trivial⟩ trivial).trans fun g1 w1 hd=>?_;obtain⟨I,B,bT,rfl,f1,F1,_⟩:=hd;refine(sU (s:=s) (j:=0) agb (bL [] [] []) F1 (by decide) rfl (by omega) fun tm ie=>⟨ie 15 _ rfl,rfl⟩).trans fun g2 w2 bX=>?_;obtain⟨cB,rfl,rfl,F2⟩:=bX;refine(agc.go (bL [] [] [(16,zo (cX s 0))]) (Q:=fun v w'=>v=.bool (decide (((cX s 0:Nat):Int)≥97)&&decide (((cX s 0:Nat):Int)≤122))) F2 rfl fun w' f1=>xS).trans fun g3 w3 cn=>?_;obtain⟨cC,v,rfl,f3,rfl,F3⟩:=cn;have hok:gq s=((decide (((cX s 0:Nat):Int)≥97)&&decide (((cX s 0:Nat):Int)≤122))&&((List.range s.size).all (fun i=>fK (cX s i))&&(eT s jo).isNone)):=by
  unfold gq;rw[decide_eq_true (by omega:1≤s.size),decide_eq_true (by omega:s.size≤32),Bool.true_and,Bool.true_and,Bool.and_assoc];congr 1;congr 1
  ·exact decide_eq_decide.2 ⟨fun h=>by omega,fun h=>by omega⟩
  ·exact decide_eq_decide.2 ⟨fun h=>by omega,fun h=>by omega⟩
 rw[hok];cases e:(decide (((cX s 0:Nat):Int)≥97)&&decide (((cX s 0:Nat):Int)≤122))with
 |false=>rw[e]at F3;exact ZM.out uh (Go.Proofs.YtmobbajggkjpgaaGreat.SX.jn [] [] [] [(1,s)]) F3 rfl trivial trivial (f1.trans f3) fun _ _ _ _=>rfl
 |true=>rw[e]at F3;refine(ZN.go (Go.Proofs.YtmobbajggkjpgaaGreat.SX.jn [] [] [] [(1,s)]) F3 rfl trivial trivial).trans fun g4 w4 c9=>?_;obtain⟨I,B,eg,rfl,f4,F4,_⟩:=c9;refine(C4 (s:=s) (w0:=w) (by omega) s.size 0 (by omega) (f1.trans (f3.trans f4)) F4).mono fun g5 w5 d_=>?_;obtain⟨gh,v,h1,h2,h3,rfl⟩:=d_;refine⟨gh,_,h1,h2,h3,?_⟩;rw[Bool.true_and];simp only[aG]
def n6(s:ByteArray):Nat->List cH->Int
 |_,[]=>-1
 |i,x::r=>if x.name==s then i else n6 s (i+1) r
theorem E0(L:List cH)(s:ByteArray):xP L s=n6 s 0 L:=by
 have:∀(L:List cH) (i:Nat),n6 s i L=match L.findIdx? (fun x=>x.name==s)with
   |some j=>((i+j:Nat):Int)
   |none=>-1:=fun L=>by
  induction L with
  |nil=>intro i;rfl
  |cons x L ih=>
   intro i;unfold n6;rw[List.findIdx?_cons];cases e:x.name==s with
   |true=>rfl
   |false=>
    rw[if_neg (by decide),ih (i+1)];cases L.findIdx? (fun x=>x.name==s)with
    |none=>rfl
    |some j=>show((i+1+j:Nat):Int)=((i+(j+1):Nat):Int);omega
 rw[this];unfold xP;cases L.findIdx? (fun x=>x.name==s)with
 |none=>rfl
 |some j=>simp
theorem GU{z:Bool}{A o c X:Nat}{L:List cH}{s:ByteArray}{os:Value}(hz:z=true->L=[])(cL:∀i x,L[i]?=some x->pS w0 A (o+i*3) x)(hX:w0.cell? ⟨X,0,none⟩=some (ew z A o L.length c))(hlen:L.length≤1000000):
  ∀(r:List cH) (i:Nat) {w:World} {fr:Frame},L.drop i=r->bA w0 w->i≤L.length->FA 50 22 FdH [] .normal [(1,.string s),(2,bI X),(5,iV i)] fr->
  Goes (G fr cs) w (Out 50 cs w0 fun v w'=>v=iV (n6 s i r))
 |[],i,w,fr,hr,fw,hi,hf=>by
  have Es:L.length≤i:=aU.1 hr;obtain⟨ρ,hρ⟩:∃ρ:Env,ρ=Go.Proofs.YtmobbajggkjpgaaGreat.SX.jn [(51,L.length),(52,c),(53,o),(10,i)] [(50,A),(64,X)] [] [(1,s)]:=⟨_,rfl⟩;have e0:(dL z 51).ev ρ=(L.length:Int):=by
   rw[hρ];cases z with
   |false=>rfl
   |true=>rw[hz rfl];rfl
  refine(ags z).out Mz ρ hf (by rw[hρ];rfl) ⟨?_,trivial⟩ ⟨?_,trivial⟩ fw fun _ _ _ _=>rfl
  ·show decide (ρ.i 10<(dL z 51).ev ρ)=false;rw[e0,hρ];exact decide_eq_false (by show ¬((i:Int)<(L.length:Int));omega)
  ·refine(show w.cell? ((⟨.dyn 64,.lit 0⟩:AA).ev ρ)=some (ew z A o L.length c)from ?_).trans (congrArg some ?_)
   ·rw[hρ];exact fw.cell hX
   ·rw[hρ];cases z<;>rfl
 |x::r,i,w,fr,hr,fw,hi,hf=>by
  obtain⟨hx,vl,hlt⟩:=dG hr;obtain rfl:z=false:=by
   cases z with
   |false=>rfl
   |true=>rw[hz rfl]at hlt;simp at hlt
  obtain⟨ts,a0,_⟩:=(cL i x hx).ex;obtain⟨ρ,hρ⟩:∃ρ:Env,ρ=Go.Proofs.YtmobbajggkjpgaaGreat.SX.jn [(51,L.length),(52,c),(53,o),(10,i)] [(50,A),(64,X)] [] [(1,s),(2,x.name)]:=⟨_,rfl⟩;have bb:=cg (ρ:=ρ) (i:=10) (n:=51) (I:=i) (N:=L.length) (by rw[hρ];rfl) (by rw[hρ];rfl) hlt;have mm:cw ρ w MA:=by rw[hρ];exact⟨fw.cell hX,fw.cell a0,trivial⟩
  have hb:=ZT (ρ:=ρ) (a:=2) (b:=1) (x:=x.name) (y:=s) (by rw[hρ];rfl) (by rw[hρ];rfl);unfold n6;cases e:x.name==s with
  |true=>refine agq.out Mz ρ hf (by rw[hρ];rfl) (cr.app bb ⟨by rw[hb,e],trivial⟩) mm fw fun _ _ _ _=>?_;rw[hρ];rfl
  |false=>refine(agr.go ρ hf (by rw[hρ];rfl) (cr.app bb ⟨by rw[hb,e],trivial⟩) mm).trans fun g1 w1 hd=>?_;obtain⟨I,B,bT,rfl,f1,F1,_⟩:=hd;rw[hρ]at F1;refine GU (c:=c) (os:=os) hz cL hX hlen r (i+1) vl (fw.trans f1) (by omega) ?_;rw[<-inc (i:=i) (by omega)];exact F1
theorem Jg{ls os:Value}{L:List cH}{s:ByteArray}(hl:nA w ls L)(hlen:L.length≤1000000):dS 50 #[.agg #[ls,os],.string s] w fun v w'=>bA w w'∧v=iV (xP L s):=by
 obtain⟨z,A,o,c,hls,hz,oU,cL⟩:=hl.ex;refine Goes.jy fun cs=>?_;obtain⟨ρ,hρ⟩:∃ρ:Env,ρ=Go.Proofs.YtmobbajggkjpgaaGreat.SX.jn [(51,L.length),(52,c),(53,o)] [(50,A)] [(9,os)] [(1,s)]:=⟨_,rfl⟩;refine((agp z).go ρ (dV Tq rfl (.agg #[ls,os]) (.string s)) (by rw[hρ,hls];cases z<;>rfl) trivial trivial).trans fun g1 w1 hd=>?_;obtain⟨I,B,bT,rfl,f1,F1,bl,_⟩:=hd;have hX:w1.cell? ⟨B 100,0,none⟩=some (ew z A o L.length c):=by have:=bl.1.2;rw[hρ]at this;cases z<;>exact bE this (i:=0) rfl
 rw[E0];refine(GU (w0:=w1) (os:=os) (X:=B 100) hz (fun i x hi=>(cL i x hi).keep f1) hX hlen L 0 rfl (bA.refl _) (by omega) (by rw[hρ]at F1;exact F1)).mono fun g2 w2 bX=>?_;obtain⟨cB,v,rfl,hL,f2,rfl⟩:=bX;exact⟨cB,_,rfl,hL,f1.trans f2,rfl⟩
def qu(l:List Nd)(i k:Nat):Int:=match pW l.length k (l.drop i)with
 |some r=>(l.length:Int)-(r.length:Int)
 |none=>-1
theorem GV{A o c:Nat}{l:List Nd}(cL:∀i n,l[i]?=some n->jF w0 A (o+i*4) n)(hl:l.length≤1000000):
  ∀(r:List Nd) (i k:Nat) {w:World} {fr:Frame},l.drop i=r->i≤l.length->k≤1+i*1000000->bA w0 w->FA 74 45 BhH [] .normal [(0,bU A o l.length c),(1,iV i),(5,iV k)] fr->
  Goes (G fr cs) w (Out 74 cs w0 fun v w'=>v=iV (qu l i k))
 |r,i,0,w,fr,hr,hi,hk,fw,hf=>by
  refine(agw false).out uj (bL [(51,l.length),(52,c),(53,o),(10,i),(11,0)] [(50,A)] []) hf rfl ⟨rfl,trivial⟩ trivial fw fun _ _ _ _=>?_;have:qu l i 0=i:=by
   unfold qu;have e:pW l.length 0 (l.drop i)=some (l.drop i):=by cases l.drop i<;>rfl
   rw[e];dsimp only;rw[br];omega
  rw[this];rfl
 |[],i,k+1,w,fr,hr,hi,hk,fw,hf=>by have Es:l.length≤i:=aU.1 hr;obtain⟨ρ,hρ⟩:∃ρ:Env,ρ=bL [(51,l.length),(52,c),(53,o),(10,i),(11,(k+1:Nat))] [(50,A)] []:=⟨_,rfl⟩;refine(ZQ false).out uj ρ hf (by rw[hρ];rfl) ⟨by rw[hρ];exact decide_eq_true (by show((k+1:Nat):Int)>0;omega),by rw[hρ];exact decide_eq_false (by show ¬((i:Int)<0);omega),by rw[hρ];exact decide_eq_true (by show(i:Int)≥((l.length:Nat):Int);omega),trivial⟩ trivial fw fun _ _ _ _=>?_;unfold qu;rw[hr];rfl
 |n::r,i,k+1,w,fr,hr,hi,hk,fw,hf=>by
  obtain⟨hn,vl,hlt⟩:=dG hr;have iD:=(cL i n hn).keep fw;obtain⟨ρ,hρ⟩:∃ρ:Env,ρ=bL [(51,l.length),(52,c),(53,o),(10,i),(11,(k+1:Nat)),(12,n.kids)] [(50,A)] []:=⟨_,rfl⟩;have bb:=cg (ρ:=ρ) (i:=10) (n:=51) (I:=i) (N:=l.length) (by rw[hρ];rfl) (by rw[hρ];rfl) hlt;have mm:cw ρ w GQ:=by rw[hρ];exact⟨iD.c2,trivial⟩
  have b0:(BE.cmp .gtr (v 11) (.lit 0)).ev ρ=true:=by rw[hρ];exact decide_eq_true (by show((k+1:Nat):Int)>0;omega)
  have hb:qu l i (k+1)=if n.kids<0∨n.kids>l.length then-1 else qu l (i+1) (k+n.kids.toNat):=by
   unfold qu;rw[hr,vl]
   conv=>lhs;unfold pW
   by_cases h:n.kids<0∨n.kids>l.length
   ·rw[if_pos h,if_pos h]
   ·rw[if_neg h,if_neg h]
  rw[hb];by_cases h1:n.kids<0
  ·rw[if_pos (.inl h1)];exact agu.out uj ρ hf (by rw[hρ];rfl) ⟨b0,cr.app bb ⟨by rw[hρ];exact decide_eq_true h1,trivial⟩⟩ mm fw fun _ _ _ _=>rfl
  by_cases h2:n.kids>l.length
  ·rw[if_pos (.inr h2)];exact agv.out uj ρ hf (by rw[hρ];rfl) ⟨b0,cr.app bb ⟨by rw[hρ];exact decide_eq_false h1,by rw[hρ];exact decide_eq_true h2,trivial⟩⟩ mm fw fun _ _ _ _=>rfl
  rw[if_neg (by omega)];refine(agt.go ρ hf (by rw[hρ];rfl) ⟨b0,cr.app bb ⟨by rw[hρ];exact decide_eq_false h1,by rw[hρ];exact decide_eq_false h2,trivial⟩⟩ mm).trans fun g1 w1 hd=>?_;obtain⟨I,B,bT,rfl,f1,F1,_⟩:=hd;rw[hρ]at F1;have e5:iF .add .i64 (iF .sub .i64 ((k+1:Nat):Int) 1) n.kids=((k+n.kids.toNat:Nat):Int):=by
   show IntKind.wrap .i64 (IntKind.wrap .i64 (((k+1:Nat):Int)-1)+n.kids)=_;have hi':i*1000000≤1000000000000:=by omega
   rw[iM (x:=((k+1:Nat):Int)-1) (by omega),iM (by omega)];omega
  refine GV (c:=c) cL hl r (i+1) (k+n.kids.toNat) vl (by omega) (by omega) (fw.trans f1) ?_;rw[<-e5,<-inc (i:=i) (by omega)];exact F1
theorem uT{s:Value}{l:List Nd}{i:Nat}(h:cP w s l)(hl:l.length≤1000000)(hi:i≤l.length):dS 74 #[s,iV i] w fun v w'=>bA w w'∧v=iV (qu l i 1):=by
 refine Goes.jy fun cs=>?_;rcases h.ex with⟨rfl,rfl⟩|⟨A,o,c,rfl,hc,cL⟩
 ·obtain rfl:i=0:=by simpa using hi
  refine((ZP true).go (bL [(10,0)] [] []) (dV EV rfl eS (iV 0)) rfl trivial trivial).trans fun g1 w1 hd=>?_;obtain⟨I,B,bT,rfl,f1,F1,_⟩:=hd;exact(ZQ true).out uj (bL [(10,0),(11,1)] [] []) F1 rfl ⟨rfl,rfl,rfl,trivial⟩ trivial f1 fun _ _ _ _=>rfl
 ·refine((ZP false).go (bL [(51,l.length),(52,c),(53,o),(10,i)] [(50,A)] []) (dV EV rfl (bU A o l.length c) (iV i)) rfl trivial trivial).trans fun g1 w1 hd=>?_;obtain⟨I,B,bT,rfl,f1,F1,_⟩:=hd;exact GV cL hl (l.drop i) i 1 rfl hi (by omega) f1 F1
theorem O0{A o c bY base i k:Nat}{tree:List Nd}{n:Nd}{s:Value}{l:List Int}(hb:base≤w.heap.size)(hs:fS w base s l)(hl:l.length≤1000000)(hi:(i:Int)<n.kids)(hat:bY<tree.length)(iD:jF w A (o+bY*4) n)(hAb:∀B c',s=bU B 0 l.length c'->B≠A)(hf:FA 75 27 KiH [] .normal [(0,bU A o tree.length c),(1,iV bY),(5,s),(6,iV k),(7,iV i)] fr):
  Goes (G fr cs) w fun g' w'=>∃fr' s',g'=G fr' cs∧bS (fun x=>base≤x) w w'∧fS w' base s' (l++[(k:Int)])∧FA 75 27 KiT [] .normal [(0,bU A o tree.length c),(1,iV bY),(5,s'),(7,iV i),(23,bU A o tree.length c),(24,iV k)] fr':=by
 rcases hs with⟨rfl,rfl⟩|⟨hne,B0,c0,rfl,P4,hv⟩
 ·obtain⟨ρ,hρ⟩:∃ρ:Env,ρ=bL [(51,tree.length),(54,c),(53,o),(10,bY),(11,k),(13,n.kids),(9,i)] [(50,A)] []:=⟨_,rfl⟩;refine(ZR.go ρ hf (by rw[hρ];rfl) (cr.app (cg (i:=10) (n:=51) (I:=bY) (N:=tree.length) (by rw[hρ];rfl) (by rw[hρ];rfl) hat) ⟨by rw[hρ];exact decide_eq_true hi,trivial⟩) ⟨by rw[hρ];exact iD.c2,trivial⟩).mono fun g1 w1 hd=>?_;obtain⟨I,B,bT,rfl,f1,F1,bl,_⟩:=hd;rw[hρ]at F1 bl;exact⟨bT,_,rfl,f1.mono fun x hx=>aA hb hx,.inr ⟨by simp,B 101,(I 101).toNat,rfl,aA hb bl.1.1,bl.1.2⟩,F1⟩
 ·obtain⟨ρ,hρ⟩:∃ρ:Env,ρ=bL [(51,tree.length),(54,c),(53,o),(10,bY),(11,k),(13,n.kids),(9,i),(8,l.length),(57,c0)] [(50,A),(52,B0)] [(65,.agg (l.map iV).toArray)]:=⟨_,rfl⟩;have P5:ρ.b 52=B0:=by rw[hρ];rfl
  refine(agy.B6 ρ hf (by rw[hρ];rfl) (cr.app (cg (i:=10) (n:=51) (I:=bY) (N:=tree.length) (by rw[hρ];rfl) (by rw[hρ];rfl) hat) ⟨by rw[hρ];exact decide_eq_true hi,by rw[hρ];show decide ((((l.length:Int).toNat:Nat):Int)+1≤1048576)=true;exact decide_eq_true (by omega),trivial⟩) ⟨by rw[hρ];exact iD.c2,trivial⟩ (fun q hq x hx=>?_) ⟨⟨.vec 3 c0 (l.map iV),by rw[P5];exact hv,rfl,by rw[hρ];rfl,fun inf vU=>?_,(nofun),by rw[hρ];rfl⟩,trivial⟩ ei).mono fun g1 w1 hd=>?_
  ·obtain rfl:=ah.1 hx;obtain rfl:=ah.1 hq;show ρ.b 52≠ρ.b 50;rw[P5,hρ];exact hAb B0 c0 rfl
  ·rw[Gs inf vU,aE,hρ];show l.length=((l.length:Nat):Int).toNat*1;omega
  obtain⟨I,B,bT,rfl,kp,F1,bl,_⟩:=hd;have own:∀x,lF ρ w [(52,.pre false 65 (v 8) [] [] [] 3 (v 57))] x->base≤x:=fun x hx=>by
   rcases hx with h|⟨y,hy,e⟩
   ·exact aA hb h
   ·obtain rfl:=ah.1 hy;have e:ρ.b 52=x:=e;omega
  have hB:(cu.vec 3 (I 101).toNat ((l++[(k:Int)]).map iV)).at Tryz.prog w1 (B 101):=by have:=bl.1.2;rw[hρ]at this;rw[List.map_append];exact this
  have hn:((((l.length:Int).toNat:Nat):Int)+1).toNat=(l++[(k:Int)]).length:=by rw[ak,List.length_singleton];omega
  refine⟨bT,bU (B 101) 0 (l++[(k:Int)]).length (I 101).toNat,rfl,kp.mono own,.inr ⟨by simp,B 101,(I 101).toNat,rfl,own _ bl.1.1,hB⟩,?_⟩;rw[<-hn];rw[hρ]at F1;exact F1
theorem GW{tree:List Nd}{A o c bY:Nat}{n:Nd}(cL:∀i n,tree[i]?=some n->jF w0 A (o+i*4) n)(ZU:tree.length≤c)(hl:tree.length≤1000000)(hn:tree[bY]?=some n)(hk:n.kids≤1000000):
  ∀(ts:List T) (i k:Nat) {rest:List Nd} {l:List Int} {s:Value} {w:World} {fr:Frame},(i:Int)+ts.length=n.kids->l.length=i->oS ts->tree.drop k=bW ts++rest->k≤tree.length->bA w0 w->fS w w0.heap.size s l->FA 75 27 KiH [] .normal [(0,bU A o tree.length c),(1,iV bY),(5,s),(6,iV k),(7,iV i)] fr->
  Goes (G fr cs) w fun g' w'=>∃fr' s',g'=G fr' cs∧bA w0 w'∧fS w' w0.heap.size s' (l++(fU k ts).map Int.ofNat)∧cV 75 fr' w' s'
 |[],i,k,rest,l,s,w,fr,hi,Es,hwf,hd,Td,fw,hs,hf=>by have hat:=(aq.1 hn).1;obtain⟨ρ,hρ⟩:∃ρ:Env,ρ=bL [(51,tree.length),(54,c),(53,o),(10,bY),(11,k),(13,n.kids),(9,i)] [(50,A)] [(5,s)]:=⟨_,rfl⟩;refine(agB.go ρ hf (by rw[hρ];rfl) (cr.app (cg (i:=10) (n:=51) (I:=bY) (N:=tree.length) (by rw[hρ];rfl) (by rw[hρ];rfl) hat) ⟨by rw[hρ];exact decide_eq_false (by show ¬((i:Int)<n.kids);simp only[aZ]at hi;omega),trivial⟩) ⟨by rw[hρ];exact fw.cell (cL bY n hn).c2,trivial⟩).trans fun g1 w1 hd=>?_;obtain⟨I,B,bT,rfl,f1,F1,_⟩:=hd;rw[hρ]at F1;refine(leave1 Ts F1 rfl).mono fun g2 w2 bX=>?_;obtain⟨cB,rfl,rfl,hL⟩:=bX;refine⟨cB,s,rfl,fw.trans f1,?_,hL⟩;simp only[fU,List.map_nil,aQ];exact hs.keep f1
 |t::ts,i,k,rest,l,s,w,fr,hi,Es,hwf,hd,Td,fw,hs,hf=>by
  simp only[aC]at hi;have hat:=(aq.1 hn).1;have hA:A<w0.heap.size:=k6 (cL bY n hn).c0;refine(O0 fw.size hs (by omega) (by omega) hat ((cL bY n hn).keep fw) (fun B c' e=>by
   rcases hs with⟨h1,h2⟩|⟨h1,B',c2,h2,h3,h4⟩
   ·rw[h1]at e;cases e
   ·have:B'=B:=lO (h2.symm.trans e);omega) hf).trans fun g1 w1 oJ=>?_
  obtain⟨bT,s1,rfl,kp,hs1,F1⟩:=oJ;have Cg:=cq fw kp;have hd':tree.drop k=flat t++(bW ts++rest):=by rw[hd];simp[bW]
  have ag_:qu tree k 1=((k+(flat t).length:Nat):Int):=by
   unfold qu;have hle:(flat t).length≤tree.length:=by have:=congrArg aP hd';rw[ak,br]at this;omega
   have:=vn (tot:=tree.length) _ [t] (bW ts++rest) rfl ⟨hwf.1,trivial⟩ (by simp only[bW,aQ];exact hle);simp only[bW,aQ,List.length_singleton]at this;rw[hd',this];dsimp only;have h2:=congrArg aP hd';rw[ak,br]at h2;omega
  refine(agz.go (bL [] [] [(23,bU A o tree.length c),(24,iV k)]) (Q:=fun v w'=>v=iV ((k+(flat t).length:Nat):Int)) F1 rfl fun w' f2=>(uT (s:=bU A o tree.length c) (l:=tree) ⟨.inr ⟨A,o,c,rfl,ZU,fun i n hi=>(cL i n hi).keep (Cg.trans f2)⟩⟩ hl Td).mono fun v w2 hd=>⟨hd.1,by rw[hd.2,ag_]⟩).trans fun g2 w2 bX=>?_;obtain⟨cB,vv,rfl,f2,rfl,F2⟩:=bX;refine(agA.go (bL [(10,bY),(9,i),(12,(k+(flat t).length:Nat))] [] [(0,bU A o tree.length c),(5,s1)]) F2 rfl trivial trivial).trans fun g3 w3 cn=>?_;obtain⟨I,B,cC,rfl,f3,F3,_⟩:=cn;have Et:tree.drop (k+(flat t).length)=bW ts++rest:=by rw[<-List.drop_drop,hd',List.drop_left]
  have ag':k+(flat t).length≤tree.length:=by have h2:=congrArg aP hd';rw[ak,br]at h2;omega
  refine(GW cL ZU hl hn hk ts (i+1) (k+(flat t).length) (rest:=rest) (l:=l++[(k:Int)]) (s:=s1) (by omega) (by rw[ak,List.length_singleton,Es]) hwf.2 Et ag' (Cg.trans (f2.trans f3)) (hs1.keep (f2.trans f3)) (by rw[<-inc (i:=i) (by omega)];exact F3)).mono fun g4 w4 c9=>?_
  obtain⟨eg,s',h1,h2,h3,h4⟩:=c9;refine⟨eg,s',h1,h2,?_,h4⟩;rw[aY]at h3;exact h3
theorem qn{tree:List Nd}{s:Value}{bY:Nat}{n:Nd}{ks:List T}{rest:List Nd}(h:cP w s tree)(hl:tree.length≤1000000)(ht:ue (.nd n ks))(hd:tree.drop bY=flat (.nd n ks)++rest):dS 75 #[s,iV bY] w fun v w'=>bA w w'∧fS w' w.heap.size v ((fU (bY+1) ks).map Int.ofNat):=by
 have oJ:tree.drop bY=n::(bW ks++rest):=by rw[hd];simp[flat]
 obtain⟨hx,bX,hlt⟩:=dG oJ;rcases h.ex with⟨_,rfl⟩|⟨A,o,c,rfl,hc,cL⟩
 ·simp at hlt
 have hfl:=fX ks;have hle:(bW ks).length≤tree.length:=by have:=congrArg aP bX;rw[ak,br]at this;omega
 have hk:n.kids=ks.length:=ht.1;refine cF fun cs=>?_;obtain⟨ρ,hρ⟩:∃ρ:Env,ρ=bL [(51,tree.length),(52,c),(53,o),(10,bY)] [(50,A)] []:=⟨_,rfl⟩;refine(agx.go ρ (dV Tr rfl (bU A o tree.length c) (iV bY)) (by rw[hρ];rfl) trivial trivial).trans fun g1 w1 oJ=>?_;obtain⟨I,B,bT,rfl,f1,F1,_⟩:=oJ;rw[hρ]at F1;refine(GW (w0:=w) cL hc hl hx (by omega) ks 0 (bY+1) (rest:=rest) (l:=[]) (s:=eS) (by omega) rfl ht.2 bX (by omega) f1 (.inl ⟨rfl,rfl⟩) (by rw[<-inc (i:=bY) (by omega)];exact F1)).mono fun g2 w2 bX=>?_
 obtain⟨cB,s',rfl,f2,h3,h4⟩:=bX;exact⟨cB,s',rfl,h4,f2,h3⟩
end
end Go.Proofs.YtmobbajggkjpgaaGreat
