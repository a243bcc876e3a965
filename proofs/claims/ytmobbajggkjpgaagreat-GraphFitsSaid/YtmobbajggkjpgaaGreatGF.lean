/-
  A symbolic run of the model, proved sound, and the walk of the code: a text of its parts. Conditions: none.
-/
import Derived.Test.YtmobbajggkjpgaaGreatGE
set_option linter.unusedSectionVars false
set_option maxRecDepth 100000
set_option linter.unusedVariables false
set_option linter.unusedSimpArgs false
namespace Go.Proofs.YtmobbajggkjpgaaGreat
open Go.Proofs.YtmobbajggkjpgaaGreat.SX Go.Conc
open _root_.List renaming getElem?_eq_getElem->aa,mem_cons_of_mem->af,mem_singleton->ah,mem_cons->ai,mem_cons_self->aj,getElem?_eq_some_iff->ak,length_append->an,mem_of_getElem?->az,not_mem_nil->aA,length_cons->aC,length_map->aD,drop_of_length_le->aI,getElem?_append_left->aK,getElem?_map->aL,getElem?_eq_none->aQ,length->aR,mem_append->aT,map_cons->aU,append_nil->aV,drop_eq_nil_iff->aW,length_nil->aX,append_assoc->a_,length_eq_zero_iff->bg,length_singleton->bp,length_pos_iff->bq,length_drop->br,map_append->bu
open _root_.Bool renaming and_eq_true->aq
open _root_.Option.some renaming inj->au
open _root_.Option renaming map_some->av,map_none->aM
open _root_.Nat renaming le_trans->ax,le_refl->ay,zero_add->aF
noncomputable def qJ(l:Nat):Code:=pc (bD Tryz.f32) (pd l)
theorem Wn:bT Tryz.prog 32 [.bF 0,.bF 1] .normal=.ok ⟨32,27,c_ 32 [.bF 0,.bF 1],[.code (bD Tryz.f32)],[],.run,.normal⟩:=by kernel_rfl
theorem Wo:dL 32 27 4:=fun st=>by kernel_rfl
noncomputable abbrev DZ:List Item:=[.code (qJ 116),.inLoop (qJ 116),.inBlock 0,.code (qJ 15)]
theorem ah2(z y:Bool):Pc 32 27 [.code (bD Tryz.f32)] ([(0,cU z 50 53 51 52),(1,cU y 60 63 61 62)]) [((.cmp .neq (dO z 51) (dO y 61)),false)] [] [] 22 [] [0,1,5] DZ [cU z 50 53 51 52,cU y 60 63 61 62,i64 (.lit 0)] []:=by cases z<;>cases y<;>exact{}
abbrev ac5:List (BE×Bool):=[((.cmp .lss (v 10) (.tn (v 51))),true),((.cmp .leq (.lit 0) (v 10)),true),((.cmp .lss (v 10) (.lit 0)),false),((.cmp .geq (v 10) (.tn (v 51))),false),((.cmp .lss (v 10) (.tn (v 61))),true),((.cmp .leq (.lit 0) (v 10)),true),((.cmp .lss (v 10) (.lit 0)),false),((.cmp .geq (v 10) (.tn (v 61))),false)]
noncomputable abbrev ac6:List (AA×AV):=[(eB 50 53 10 3,ss 1),(eA 50 53 10 3 1,.bF 7),(eA 50 53 10 3 2,i64 (v 4)),(eB 60 63 10 3,ss 1),(eA 60 63 10 3 1,.bF 17),(eA 60 63 10 3 2,i64 (v 4))]
theorem ah3:Pc 32 27 DZ (Ov) ac5 ac6 [] 13 [] [0,1,5] [.code (qJ 1864),.code (qJ 1865),.inBlock 1,.code (qJ 467),.inLoop (qJ 116),.inBlock 0,.code (qJ 15)] [sA 50 53 51 52,sA 60 63 61 62,i64 (v 10)] []:={}
theorem ah4:Pc 32 27 [.inRegion (opsOf (qJ 1864)) [],.code (qJ 1865),.inBlock 1,.code (qJ 467),.inLoop (qJ 116),.inBlock 0,.code (qJ 15)] ([(0,.bF 0),(1,.bF 1),(5,i64 (v 10)),(26,FB)]) [] [] [] 10 [] [0,1,5] DZ [.bF 0,.bF 1,i64 (.op .add .i64 (v 10) (.lit 1))] []:={}
theorem ah5(z y:Bool):Pc 32 27 DZ ([(0,cU z 50 53 51 52),(1,cU y 60 63 61 62),(5,i64 (v 10))]) [((.cmp .lss (v 10) (dO z 51)),false)] [] [] 14 [] [4] [.code .ret] [TB] []:=by cases z<;>cases y<;>exact{}
noncomputable abbrev tW:Array Oper:=opsOf (qJ 1864)
theorem cX{α:Type}{lv:List α}{a:α}(h:a∈lv):∀q∈[a],q∈lv:=List.forall_mem_singleton.2 h
theorem ko{α:Type}{lv:List α}{a b:α}(h:a∈lv)(h2:b∈lv):∀q∈[a,b],q∈lv:=List.forall_mem_cons.2 ⟨h,cX h2⟩
theorem ac7{α:Type}{lv:List α}{a b c:α}(h:a∈lv)(h2:b∈lv)(h3:c∈lv):∀q∈[a,b,c],q∈lv:=List.forall_mem_cons.2 ⟨h,ko h2 h3⟩
theorem ac8:dH 27 tW 0 [] [] [(0,sA 50 53 51 52)] (sA 50 53 51 52) 17:={}
theorem ac9:dH 27 tW 1 [] [] [(5,i64 (v 10))] (i64 (v 10)) 18:={}
abbrev OE:List (BE×Bool):=[((.cmp .lss (v 10) (.tn (v 51))),true),((.cmp .leq (.lit 0) (v 10)),true)]
theorem ac_:dH 27 tW 2 OE [] [(17,sA 50 53 51 52),(18,i64 (v 10))] (.ptr (some (eB 50 53 10 3))) 19:={}
theorem ada:dH 27 tW 3 [] [(eB 50 53 10 3,ss 1),(eA 50 53 10 3 1,.bF 7),(eA 50 53 10 3 2,i64 (v 4))] [(19,.ptr (some (eB 50 53 10 3)))] (.agg [ss 1,.bF 7,i64 (v 4)]) 20:={}
theorem adb:dH 27 tW 4 [] [] [(1,sA 60 63 61 62)] (sA 60 63 61 62) 21:={}
theorem ade:dH 27 tW 5 [] [] [(5,i64 (v 10))] (i64 (v 10)) 22:={}
theorem adf:dH 27 tW 6 [((.cmp .lss (v 10) (.tn (v 61))),true),((.cmp .leq (.lit 0) (v 10)),true)] [] [(21,sA 60 63 61 62),(22,i64 (v 10))] (.ptr (some (eB 60 63 10 3))) 23:={}
theorem adg:dH 27 tW 7 [] [(eB 60 63 10 3,ss 1),(eA 60 63 10 3 1,.bF 17),(eA 60 63 10 3 2,i64 (v 4))] [(23,.ptr (some (eB 60 63 10 3)))] (.agg [ss 1,.bF 17,i64 (v 4)]) 24:={}
theorem adh:dy 27 tW 8 [(20,.agg [ss 1,.bF 7,i64 (v 4)]),(24,.agg [ss 1,.bF 17,i64 (v 4)])] 56 [.agg [ss 1,.bF 7,i64 (v 4)],.agg [ss 1,.bF 17,i64 (v 4)]] 25:={}
theorem adi:dH 27 tW 9 [] [] [(25,TB)] (FB) 26:={}
def RI(i:Nat):Nat:=match i with
 |0=>17|1=>18|2=>19|3=>20|4=>21|5=>22|6=>23|7=>24|8=>25|_=>26
noncomputable abbrev KO:List (Nat×AV):=Ov
noncomputable abbrev Wr:List (AA×AV):=ac6
noncomputable abbrev adj:List (BE×Bool):=ac5
noncomputable def GC(ρ:Env)(i:Nat)(u:Value)(w:World):Prop:=match i with
 |0=>u=(sA 50 53 51 52:AV).ev ρ
 |1=>u=(i64 (v 10):AV).ev ρ
 |2=>u=(.ptr (some (eB 50 53 10 3)):AV).ev ρ
 |3=>u=(.agg [ss 1,.bF 7,i64 (v 4)]:AV).ev ρ
 |4=>u=(sA 60 63 61 62:AV).ev ρ
 |5=>u=(i64 (v 10):AV).ev ρ
 |6=>u=(.ptr (some (eB 60 63 10 3)):AV).ev ρ
 |7=>u=(.agg [ss 1,.bF 17,i64 (v 4)]:AV).ev ρ
 |8=>u=(TB:AV).ev ρ
 |_=>u=(FB:AV).ev ρ
theorem KP{ρ:Env}(i:Nat)(u:Value)(w w':World)(h:GC ρ i u w)(f:bA w w'):GC ρ i u w':=by
 unfold GC at h⊢;split at h
 all_goals first|exact h
section
variable {w w0:World}{cs:List Frame}{fr:Frame}
theorem OF{ρ:Env}{x:cx}{k:List Item}(pa:cK w0 (ρ.v 7) x.tree)(pb:iu w0 (ρ.v 17) x.tree)(pn:x.tree.length≤4294967000)(pe:ρ.s 1=x.name)(pf:ρ.i 4=x.cj)(iH:cg ρ adj)(hmem:cq ρ w0 Wr):
  ∀i,i<10->(true)=true->∀(l:List Nat) (w:World) (fr:Frame) (lv:List (Nat×Value)),bA w0 w->FA 32 27 (.inRegion tW (i::l)::k) [] .normal lv fr->(∀x∈told ρ KO,x∈lv)->(∀p∈jf tW i,∃v,(RI p,v)∈lv∧GC ρ p v w)->
   Goes (G fr cs) w fun g' w'=>∃fr' v,g'=G fr' cs∧bA w w'∧GC ρ i v w'∧FA 32 27 (.inRegion tW l::k) [] .normal (fP (RI i) v lv) fr':=by
 intro i hi he l w fr lv f hf hb hp;have bm:∀{j:Nat} {q:Nat×Value},(told ρ KO)[j]?=some q->q∈lv:=fun h=>hb _ (az h);rcases(by omega:i=0∨i=1∨i=2∨i=3∨i=4∨i=5∨i=6∨i=7∨i=8∨i=9)with rfl|rfl|rfl|rfl|rfl|rfl|rfl|rfl|rfl|rfl
 ·exact ac8.di ρ hf (by decide) (cX (bm (j:=0) rfl)) trivial trivial rfl
 ·exact ac9.di ρ hf (by decide) (cX (bm (j:=2) rfl)) trivial trivial rfl
 ·obtain⟨v0,q0,e0⟩:=hp 0 (dI (by kernel_rfl));have e0:v0=(sA 50 53 51 52:AV).ev ρ:=e0;subst e0;obtain⟨v1,q1,e1⟩:=hp 1 (dI (by kernel_rfl));have e1:v1=(i64 (v 10):AV).ev ρ:=e1;subst e1;exact ac_.di ρ hf (by decide) (ko q0 q1) ⟨iH.1,iH.2.2.2.2.2.1,trivial⟩ trivial rfl
 ·obtain⟨v2,q2,e2⟩:=hp 2 (dI (by kernel_rfl));have e2:v2=(.ptr (some (eB 50 53 10 3)):AV).ev ρ:=e2;subst e2;exact ada.di ρ hf (by decide) (cX q2) trivial ⟨f.cell hmem.1,f.cell hmem.2.1,f.cell hmem.2.2.1,trivial⟩ rfl
 ·exact adb.di ρ hf (by decide) (cX (bm (j:=1) rfl)) trivial trivial rfl
 ·exact ade.di ρ hf (by decide) (cX (bm (j:=2) rfl)) trivial trivial rfl
 ·obtain⟨v4,q4,e4⟩:=hp 4 (dI (by kernel_rfl));have e4:v4=(sA 60 63 61 62:AV).ev ρ:=e4;subst e4;obtain⟨v5,q5,e5⟩:=hp 5 (dI (by kernel_rfl));have e5:v5=(i64 (v 10):AV).ev ρ:=e5;subst e5;exact adf.di ρ hf (by decide) (ko q4 q5) ⟨iH.2.2.2.2.1,iH.2.2.2.2.2.1,trivial⟩ trivial rfl
 ·obtain⟨v6,q6,e6⟩:=hp 6 (dI (by kernel_rfl));have e6:v6=(.ptr (some (eB 60 63 10 3)):AV).ev ρ:=e6;subst e6;exact adg.di ρ hf (by decide) (cX q6) trivial ⟨f.cell hmem.2.2.2.1,f.cell hmem.2.2.2.2.1,f.cell hmem.2.2.2.2.2.1,trivial⟩ rfl
 ·obtain⟨v3,q3,e3⟩:=hp 3 (dI (by kernel_rfl));have e3:v3=(.agg [ss 1,.bF 7,i64 (v 4)]:AV).ev ρ:=e3;subst e3;obtain⟨v7,q7,e7⟩:=hp 7 (dI (by kernel_rfl));have e7:v7=(.agg [ss 1,.bF 17,i64 (v 4)]:AV).ev ρ:=e7;subst e7;exact adh.di ρ (Q:=fun v w'=>v=(TB:AV).ev ρ) hf (ko q3 q7) (fun w' f1=>by show dV 56 #[.agg #[.string (ρ.s 1),ρ.v 7,iV (ρ.i 4)],.agg #[.string (ρ.s 1),ρ.v 17,iV (ρ.i 4)]] w' _;rw[pe,pf];exact KN (pa.keep (f.trans f1)) (pb.keep (f.trans f1)) pn)
 ·obtain⟨v8,q8,e8⟩:=hp 8 (dI (by kernel_rfl));have e8:v8=(TB:AV).ev ρ:=e8;subst e8;exact adi.di ρ hf (by decide) (cX q8) trivial trivial rfl
theorem RJ{ρ:Env}{x:cx}{k:List Item}{lv:List (Nat×Value)}(pa:cK w (ρ.v 7) x.tree)(pb:iu w (ρ.v 17) x.tree)(pn:x.tree.length≤4294967000)(pe:ρ.s 1=x.name)(pf:ρ.i 4=x.cj)(iH:cg ρ adj)(hmem:cq ρ w Wr)(hl:eZ lv (told ρ KO))(hf:FA 32 27 (.code (qJ 1864)::k) [] .normal lv fr):
  Goes (G fr cs) w fun g' w'=>∃fr' jm,g'=G fr' cs∧bA w w'∧FA 32 27 (.inRegion tW []::k) [] .normal jm fr'∧(∀x∈told ρ KO,x∈jm)∧∀i,i<10->(true)=true->∃v,(RI i,v)∈jm∧GC ρ i v w':=by
 obtain⟨id,hid⟩:=gS (c:=qJ 1864) (by kernel_rfl);have hf:=hf.only hl;rw[hid]at hf;refine(gQ hf).trans fun g1 w1 hd=>?_;obtain⟨ls,bR,rfl,f1,hs,F1⟩:=hd;refine(iw (b:=told ρ KO) (nm:=RI) (val:=GC ρ) (early:=fun _=>true) (late:=[]) (n:=10) (w0:=w) (by kernel_rfl) (by kernel_rfl) (by kernel_rfl) (by kernel_rfl) (by kernel_rfl) (by kernel_rfl) (by kernel_rfl) List.Pairwise.nil KP (OF pa pb pn pe pf iH hmem) ls [] f1 (fun i hi=>by cases hi) hs ⟨_,F1,fun x hx=>hx,fun i hi=>by cases hi⟩).mono fun g2 w2 b_=>?_;obtain⟨cE,lv,h1,h2,h3,h4,h5⟩:=b_;exact⟨cE,lv,h1,h2,h3,h4,h5⟩
end
noncomputable abbrev QsH:List Item:=DZ
section
variable {w w0:World}{cs:List Frame}
theorem IA{z y:Bool}{A o c A' o' c':Nat}{l:List cx}(hz:z=true->l=[])(hy:y=true->l=[])(hel:∀i x,l[i]?=some x->lE w0 A (o+i*3) x)(jL:∀i x,l[i]?=some x->og w0 A' (o'+i*3) x)(hlen:l.length≤4294967000)(htr:∀x∈l,x.tree.length≤4294967000):
  ∀(k i:Nat) {w:World} {fr:Frame},i+k=l.length->bA w0 w->FA 32 27 QsH [] .normal [(0,ew z A o l.length c),(1,ew y A' o' l.length c'),(5,iV i)] fr->
  Goes (G fr cs) w fun g' w'=>∃fr',g'=G fr' cs∧bA w0 w'∧de 32 fr' w' (.bool true)
 |0,i,w,fr,hi,fw,hf=>by
  obtain⟨ρ,hρ⟩:∃ρ:Env,ρ=bO [(51,l.length),(52,c),(53,o),(61,l.length),(62,c'),(63,o'),(10,i)] [(50,A),(60,A')] []:=⟨_,rfl⟩;refine((ah5 z y).go ρ hf (by rw[hρ];cases z<;>cases y<;>rfl) ⟨by
    rw[hρ];cases z with
    |false=>exact decide_eq_false (by show ¬((i:Int)<((l.length:Nat):Int));omega)
    |true=>exact decide_eq_false (by show ¬((i:Int)<0);omega),trivial⟩ trivial).trans fun g1 w1 hd=>?_
  obtain⟨I,B,bR,rfl,f1,F1,_⟩:=hd;refine(leave1 Wo F1 rfl).mono fun g6 w6 dz=>?_;obtain⟨dK,rfl,rfl,hL⟩:=dz;exact⟨dK,rfl,fw.trans f1,hL⟩
 |k+1,i,w,fr,hi,fw,hf=>by
  have hlt:i<l.length:=by omega
  obtain⟨x,hx⟩:∃x,l[i]?=some x:=⟨_,aa hlt⟩;cases z with
  |true=>rw[hz rfl]at hlt;simp at hlt
  |false=>
  cases y with
  |true=>rw[hy rfl]at hlt;simp at hlt
  |false=>
  obtain⟨ts,a0,a1,a2,aN⟩:=(hel i x hx).ex;obtain⟨ts',b0,b1,b2,bN⟩:=(jL i x hx).ex;obtain⟨ρ,hρ⟩:∃ρ:Env,ρ=Go.Proofs.YtmobbajggkjpgaaGreat.SX.iS [(51,l.length),(52,c),(53,o),(61,l.length),(62,c'),(63,o'),(10,i),(4,x.cj)] [(50,A),(60,A')] [(7,ts),(17,ts')] [(1,x.name)]:=⟨_,rfl⟩;have bs:=cg.app (bX (ρ:=ρ) (i:=10) (n:=51) (I:=i) (N:=l.length) (by rw[hρ];rfl) (by rw[hρ];rfl) hlt) (bX (ρ:=ρ) (i:=10) (n:=61) (I:=i) (N:=l.length) (by rw[hρ];rfl) (by rw[hρ];rfl) hlt);have mm:∀{w1:World},bA w w1->cq ρ w1 Wr:=fun f=>⟨by rw[hρ];exact f.cell (fw.cell a0),by rw[hρ];exact f.cell (fw.cell a1),by rw[hρ];exact f.cell (fw.cell a2),by rw[hρ];exact f.cell (fw.cell b0),by rw[hρ];exact f.cell (fw.cell b1),by rw[hρ];exact f.cell (fw.cell b2),trivial⟩;refine(ah3.go ρ hf (by rw[hρ];rfl) bs (mm (bA.refl w))).trans fun g1 w1 hd=>?_;obtain⟨I,B,bR,rfl,f1,F1,_⟩:=hd;rw[hρ]at F1;refine(RJ (ρ:=ρ) (x:=x) (by rw[hρ];exact aN.keep (fw.trans f1)) (by rw[hρ];exact bN.keep (fw.trans f1)) (htr x (az hx)) (by rw[hρ];rfl) (by rw[hρ];rfl) bs (mm f1) (by rw[hρ];rfl) F1).trans fun g2 w2 b_=>?_;obtain⟨cE,AI,rfl,f2,F2,o7,kV⟩:=b_;obtain⟨u,q,eu⟩:=kV 9 (by decide) rfl;have eu:u=(FB:AV).ev ρ:=eu;subst eu;have lY:=F2.sub (jm:=told ρ KO++[(26,(FB:AV).ev ρ)]) fun x hx=>by
   rcases aT.1 hx with h|h
   ·exact o7 x h
   ·obtain rfl:=ah.1 h;exact q
  rw[hρ]at lY;refine(ah4.go (bO [(10,i)] [] [(0,bS A o l.length c),(1,bS A' o' l.length c')]) lY rfl trivial trivial).trans fun g3 w3 cv=>?_;obtain⟨I,B3,cF,rfl,f3,F3,_⟩:=cv;refine IA (z:=false) (y:=false) (c:=c) (c':=c') (fun h=>by cases h) (fun h=>by cases h) hel jL hlen htr k (i+1) (by omega) (fw.trans (f1.trans (f2.trans f3))) ?_;rw[<-inc (i:=i) (by omega)];exact F3
theorem GD{a b:Value}{l:List cx}(ha:r9 w a l)(hb:nN w b l)(hlen:l.length≤4294967000)(htr:∀x∈l,x.tree.length≤4294967000):dV 32 #[a,b] w fun v w'=>bA w w'∧v=.bool true:=by
 obtain⟨z,A,o,c,rfl,hz,oU,hel⟩:=ha.ex;obtain⟨y,A',o',c',rfl,hy,Gp,jL⟩:=hb.ex;refine cI fun cs=>?_;obtain⟨ρ,hρ⟩:∃ρ:Env,ρ=bO [(51,l.length),(52,c),(53,o),(61,l.length),(62,c'),(63,o')] [(50,A),(60,A')] []:=⟨_,rfl⟩;have nz:(dO z 51).ev ρ=(l.length:Int):=by
  rw[hρ];cases z with
  |false=>rfl
  |true=>rw[hz rfl];rfl
 have ny:(dO y 61).ev ρ=(l.length:Int):=by
  rw[hρ];cases y with
  |false=>rfl
  |true=>rw[hy rfl];rfl
 refine((ah2 z y).go ρ (dU Wn rfl (ew z A o l.length c) (ew y A' o' l.length c')) (by rw[hρ];cases z<;>cases y<;>rfl) ⟨by show(!decide ((dO z 51).ev ρ=(dO y 61).ev ρ))=false;rw[nz,ny];simp,trivial⟩ trivial).trans fun g1 w1 hd=>?_
 obtain⟨I,B,bR,rfl,f1,F1,_⟩:=hd;have fN:FA 32 27 QsH [] .normal [(0,ew z A o l.length c),(1,ew y A' o' l.length c'),(5,iV (0:Nat))] bR:=by rw[hρ]at F1;cases z<;>cases y<;>exact F1
 refine(IA (w0:=w) hz hy hel jL hlen htr l.length 0 (by omega) f1 fN).mono fun g2 w2 b_=>?_;obtain⟨cE,rfl,f2,hL⟩:=b_;exact⟨cE,_,rfl,hL,f2,rfl⟩
end
noncomputable def KQ(l:Nat):Code:=pc (bD Tryz.f12) (pd l)
theorem Ws:bT Tryz.prog 12 [.bF 0,.bF 1] .normal=.ok ⟨12,17,c_ 12 [.bF 0,.bF 1],[.code (bD Tryz.f12)],[],.run,.normal⟩:=by kernel_rfl
theorem Wt:dL 12 17 4:=fun st=>by kernel_rfl
theorem ah6:Pc 12 17 [.code (bD Tryz.f12)] ([(0,.agg [.bF 8,.bF 9]),(1,.agg [.bF 18,.bF 19])]) [] [] [] 12 [101,100] [2,3,6,8] [.inRegion (opsOf (KQ 6)) [4,5,6,7,8,9,10,11,12],.code .ret] [bC 100,bC 101,.bF 8,.bF 18] [(101,.cells [.bF 18,.bF 19] 25),(100,.cells [.bF 8,.bF 9] 25)]:={}
theorem ah7:dy 17 (opsOf (KQ 6)) 4 [(6,.bF 6),(8,.bF 8)] 32 [.bF 6,.bF 8] 9:={}
theorem ah8:Pc 12 17 [.inRegion (opsOf (KQ 6)) [5,6,7,8,9,10,11,12],.code .ret] ([(2,bC 64),(3,bC 65),(9,TB)]) [] [(eD 64 1,.bF 9),(eD 65 1,.bF 19)] [] 5 [] [10,12,14] [.inRegion (opsOf (KQ 6)) [10,11,12],.code .ret] [TB,.bF 9,.bF 19] []:={}
theorem ah9:dy 17 (opsOf (KQ 6)) 10 [(10,TB),(12,.bF 12),(14,.bF 14)] 33 [.bF 12,.bF 14] 15:={}
theorem ah_:Pc 12 17 [.inRegion (opsOf (KQ 6)) [11,12],.code .ret] ([(10,TB),(15,TB)]) [] [] [] 3 [] [4] [.code .ret] [TB] []:={}
section
variable {w:World}
theorem GF{a b:Value}{F:iG}(ha:r_ w a F)(hb:mK w b F)(hlen:F.lets.length≤4294967000)(htr:∀x∈F.lets,x.tree.length≤4294967000)(Wj:F.outs.length≤4294967000):dV 12 #[a,b] w fun v w'=>bA w w'∧v=.bool true:=by
 obtain⟨la,oa,rfl,hla,hoa⟩:=ha;obtain⟨lb,ob,rfl,hlb,hob⟩:=hb;refine cI fun cs=>?_;refine(ah6.go (bO [] [] [(8,la),(9,oa),(18,lb),(19,ob)]) (dU Ws rfl (.agg #[la,oa]) (.agg #[lb,ob])) rfl trivial trivial).trans fun g1 w1 hd=>?_;obtain⟨I,B,bR,rfl,f1,F1,bl,_⟩:=hd;obtain⟨X,eX⟩:∃X,B 100=X:=⟨_,rfl⟩;obtain⟨Y,eY⟩:∃Y,B 101=Y:=⟨_,rfl⟩;have hX:(cy.obj 25 [la,oa]).at Tryz.prog w1 X:=by rw[<-eX];exact bl.2.1.2
 have hY:(cy.obj 25 [lb,ob]).at Tryz.prog w1 Y:=by rw[<-eY];exact bl.1.2
 have fN:=F1.only (l:=[(2,bK X),(3,bK Y),(6,la),(8,lb)]) (by rw[<-eX,<-eY];rfl);refine(ah7.go (bO [] [] [(6,la),(8,lb)]) (Q:=fun v w'=>v=.bool true) fN rfl fun w' f=>GD (hla.keep (f1.trans f)) (hlb.keep (f1.trans f)) hlen htr).trans fun g2 w2 b_=>?_;obtain⟨cE,vv,rfl,f2,rfl,F2⟩:=b_;refine(ah8.go (bO [] [(64,X),(65,Y)] [(9,oa),(19,ob)]) F2 rfl trivial ⟨f2.cell (bG hX (i:=1) rfl),f2.cell (bG hY (i:=1) rfl),trivial⟩).trans fun g3 w3 cv=>?_;obtain⟨I3,B3,cF,rfl,f3,F3,_⟩:=cv;have f13:=f1.trans (f2.trans f3);refine(ah9.go (bO [] [] [(12,oa),(14,ob)]) (Q:=fun v w'=>v=.bool true) F3 rfl fun w' f=>Gy (hoa.keep (f13.trans f)) (hob.keep (f13.trans f)) Wj).trans fun g4 w4 dh=>?_;obtain⟨eO,vv,rfl,f4,rfl,F4⟩:=dh;refine(ah_.go (bO [] [] []) F4 rfl trivial trivial).trans fun g5 w5 eg=>?_;obtain⟨I5,B5,gn,rfl,f5,F5,_⟩:=eg;refine(leave1 Wt F5 rfl).mono fun g6 w6 dz=>?_;obtain⟨dK,rfl,rfl,hL⟩:=dz;exact⟨dK,_,rfl,hL,f13.trans (f4.trans f5),rfl⟩
end
noncomputable def nO(l:Nat):Code:=pc (bD Tryz.f35) (pd l)
theorem Wu:bT Tryz.prog 35 [.bF 0] .normal=.ok ⟨35,28,c_ 35 [.bF 0],[.code (bD Tryz.f35)],[],.run,.normal⟩:=by kernel_rfl
theorem Wv:dL 35 28 2:=fun st=>by kernel_rfl
noncomputable abbrev IB:List AV:=[sA 50 53 51 52,sA 50 53 51 52,i64 (.op .add .i64 (.tn (v 51)) (.lit 64))]
theorem aia:Pc 35 28 [.code (bD Tryz.f35)] ([(0,sA 50 53 51 52)]) [] [] [] 10 [] [0,6,9] [.inRegion (opsOf (nO 6)) [4,5],.code (nO 7)] IB []:={}
theorem aib:j7 28 (opsOf (nO 6)) 4 [] (.slice 23 (.tmp 6) none (some (.tmp 9)) none) 23 (some 10):={}
noncomputable abbrev D1:List Item:=[.code (nO 116),.inLoop (nO 116),.inBlock 0,.code (nO 15)]
noncomputable abbrev OG:List (Nat×AV):=[(0,sA 50 53 51 52),(10,.bF 5)]
theorem aic:Pc 35 28 [.inRegion (opsOf (nO 6)) [5],.code (nO 7)] (OG) [] [] [] 11 [] [3,4] D1 [.bF 5,i64 (.tn (v 51))] []:={}
noncomputable abbrev AO:List (Nat×AV):=[(3,sA 60 63 61 62),(4,i64 (v 10))]
theorem aid:Pc 35 28 D1 (AO) (fo 10 61) [(eC 60 63 10,i64 (v 11))] [] 24 [] [3,4,23,24] [.inRegion (opsOf (nO 3730)) [2,3,4],.code (nO 3731),.inBlock 1,.code (nO 467),.inLoop (nO 116),.inBlock 0,.code (nO 15)] [sA 60 63 61 62,i64 (v 10),i64 (v 11),i64 (v 10)] []:={}
theorem aie:dy 28 (opsOf (nO 3730)) 2 [(24,.bF 24)] 25 [i64 (.lit 9),.bF 24] 25:={}
theorem aif:Pc 35 28 [.inRegion (opsOf (nO 3730)) [3,4],.code (nO 3731),.inBlock 1,.code (nO 467),.inLoop (nO 116),.inBlock 0,.code (nO 15)] ([(3,sA 60 63 61 62),(4,i64 (v 10)),(23,i64 (v 11)),(25,i64 (v 20))]) [((.cmp .eql (v 11) (v 20)),true)] [] [] 12 [] [3,4] D1 [sA 60 63 61 62,i64 (.op .add .i64 (v 10) (.lit 1))] []:={}
theorem aih:Pc 35 28 D1 (AO) tP [] [] 14 [] [2] [.code .ret] [TB] []:={}
theorem OH{t elem size:Nat}(hU:under? Tryz.prog t=.ok (.slice elem))(hS:sizeOf? Tryz.prog elem=.ok size){off n c k:Nat}(h:k≤c)(hn:n≤c):sliceOp? Tryz.prog t (.slice (some ⟨.dyn 50,.lit (Int.ofNat off)⟩) (.lit (Int.ofNat n)) (.lit (Int.ofNat c))) none (some (.int .i64 (.lit (Int.ofNat k)))) none=.ok (.slice (some ⟨.dyn 50,.lit (Int.ofNat off)⟩) (.lit (Int.ofNat k)) (.lit (Int.ofNat c))):=by unfold sliceOp?;rw[hU];simp only[bind,Except.bind,litNat?,bounds?,bound?,high?,hS,pure,Except.pure];simp[h,hn,AA.add,zb]
section
variable {w w0:World}{cs:List Frame}{fr:Frame}
theorem tX{E:Value->World->Prop}{t elem size:Nat}(hU:under? Tryz.prog t=.ok (.slice elem))(hS:sizeOf? Tryz.prog elem=.ok size){A off n c k:Nat}(h:k≤c)(hn:n≤c){Q:Value->World->Prop}(hq:Q (bS A off k c) w):
  wq Tryz.prog (fun _=>True) E (Instr.sliceAt t (bS A off n c) none (some (iV k)) none) Q w:=by
 let K:Ctx:=⟨Tryz.prog,{},fun _=>True,fun _=>True,True,fun _ _=>False⟩;let ρ:Env:=bO [] [(50,A)] [];exact kJ (K:=K) (ρ:=ρ) (w:=w) (OH (off:=off) (k:=k) hU hS h hn) (Q:=Q) hq
noncomputable abbrev SiH:List Item:=D1
theorem IC{B n:Nat}{l:List Int}(hn:n=l.length)(hlen:l.length≤4294967000)(hc:∀i,i<n+64->n≤i->w0.cell? ⟨B,i,none⟩=some (iV (9437185+i:Nat))):
  ∀(k i:Nat) {w:World} {fr:Frame},i+k=n+64->n≤i->bA w0 w->FA 35 28 SiH [] .normal [(3,bS B 0 (n+64) (n+64)),(4,iV i)] fr->
  Goes (G fr cs) w fun g' w'=>∃fr',g'=G fr' cs∧bA w0 w'∧de 35 fr' w' (.bool true)
 |0,i,w,fr,hi,hni,fw,hf=>by obtain⟨ρ,hρ⟩:∃ρ:Env,ρ=bO [(61,(n+64:Nat)),(62,(n+64:Nat)),(63,0),(10,i)] [(60,B)] []:=⟨_,rfl⟩;refine(aih.go ρ hf (by rw[hρ];rfl) ⟨by rw[hρ];exact decide_eq_false (by show ¬((i:Int)<(((n+64:Nat):Nat):Int));omega),trivial⟩ trivial).trans fun g1 w1 hd=>?_;obtain⟨I,B1,bR,rfl,f1,F1,_⟩:=hd;refine(leave1 Wv F1 rfl).mono fun g6 w6 dz=>?_;obtain⟨dK,rfl,rfl,hL⟩:=dz;exact⟨dK,rfl,fw.trans f1,hL⟩
 |k+1,i,w,fr,hi,hni,fw,hf=>by
  obtain⟨ρ,hρ⟩:∃ρ:Env,ρ=bO [(61,(n+64:Nat)),(62,(n+64:Nat)),(63,0),(10,i),(11,(9437185+i:Nat)),(20,(9437185+i:Nat))] [(60,B)] []:=⟨_,rfl⟩;refine(aid.go ρ hf (by rw[hρ];rfl) (bX (i:=10) (n:=61) (I:=i) (N:=n+64) (by rw[hρ];rfl) (by rw[hρ];rfl) (by omega)) ⟨by rw[hρ];show w.cell? ⟨B,0+i,none⟩=_;rw[aF];exact fw.cell (hc i (by omega) hni),trivial⟩).trans fun g1 w1 hd=>?_
  obtain⟨I,B1,bR,rfl,f1,F1,_⟩:=hd;rw[hρ]at F1;refine(aie.go (bO [] [] [(24,iV i)]) (Q:=fun v w'=>v=iV (9437185+i:Nat)) F1 rfl fun w' f=>lS (by omega)).trans fun g2 w2 b_=>?_;obtain⟨cE,vv,rfl,f2,rfl,F2⟩:=b_;refine(aif.go ρ F2 (by rw[hρ];rfl) ⟨by rw[hρ];exact decide_eq_true rfl,trivial⟩ trivial).trans fun g3 w3 cv=>?_;obtain⟨I3,B3,cF,rfl,f3,F3,_⟩:=cv;rw[hρ]at F3;refine IC hn hlen hc k (i+1) (by omega) (by omega) (fw.trans (f1.trans (f2.trans f3))) ?_;rw[<-inc (i:=i) (by omega)];exact F3
theorem zE{base:Nat}{s:Value}{l:List Int}(h:kD w base s l)(hlen:l.length≤4294967000):dV 35 #[s] w fun v w'=>bA w w'∧v=.bool true:=by
 obtain⟨B,_,rfl,hv⟩:=h;refine cI fun cs=>?_;obtain⟨ρ,hρ⟩:∃ρ:Env,ρ=bO [(51,l.length),(52,(l.length+64:Nat)),(53,0)] [(50,B)] []:=⟨_,rfl⟩;refine(aia.go ρ (cC Wu rfl (bS B 0 l.length (l.length+64))) (by rw[hρ];rfl) trivial trivial).trans fun g1 w1 hd=>?_;obtain⟨I,B1,bR,rfl,f1,F1,_⟩:=hd;have fN:FA 35 28 (.inRegion (opsOf (nO 6)) [4,5]::[.code (nO 7)]) [] .normal [(0,bS B 0 l.length (l.length+64)),(6,bS B 0 l.length (l.length+64)),(9,iV (l.length+64:Nat))] bR:=by rw[<-lG hlen];rw[hρ]at F1;exact F1
 refine(aib.go (R:=fun y w'=>y=bS B 0 (l.length+64) (l.length+64)∧w'=w1) (bO [] [] []) fN (by decide) rfl fun tm ir x' e1 e2=>?_).trans fun g2 w2 b_=>?_
 ·unfold execOp;simp only[e1,bH,av,aM];rw[ir 6 _ rfl,ir 9 (iV (l.length+64:Nat)) rfl];exact tX (t:=23) (elem:=3) (size:=1) (by kernel_rfl) (by kernel_rfl) (ay _) (by omega) ⟨_,rfl,rfl,rfl⟩
 obtain⟨cE,y,rfl,⟨rfl,rfl⟩,F2⟩:=b_;refine(aic.go (bO [(51,l.length),(52,(l.length+64:Nat)),(53,0)] [(50,B)] [(5,bS B 0 (l.length+64) (l.length+64))]) F2 rfl trivial trivial).trans fun g3 w3 cv=>?_;obtain⟨I3,B3,cF,rfl,f3,F3,_⟩:=cv;refine(IC (w0:=w3) (n:=l.length) rfl hlen (fun i hi hni=>?_) 64 l.length (by omega) (ay _) (bA.refl _) F3).mono fun g4 w4 dh=>?_
 ·refine(f1.trans f3).cell (cy.cS hv ?_);have e:=kO (f:=tS l) (sz:=1) (ym l) (l.length+64) i 0 hi (by decide);rw[Nat.mul_one,Nat.add_zero]at e;refine e.trans ?_;unfold tS;rw[show l[i]?=none from aQ (by omega)];rfl
 ·obtain⟨eO,rfl,f4,hL⟩:=dh;exact⟨eO,_,rfl,hL,(f1.trans f3).trans f4,rfl⟩
end
noncomputable def mM(l:Nat):Code:=pc (bD Tryz.f15) (pd l)
theorem Ww:bT Tryz.prog 15 [.bF 0] .normal=.ok ⟨15,29,c_ 15 [.bF 0],[.code (bD Tryz.f15)],[],.run,.normal⟩:=by kernel_rfl
theorem Wx:dL 15 29 2:=fun st=>by kernel_rfl
theorem aii:Pc 15 29 [.code (bD Tryz.f15)] ([(0,sA 50 53 51 52)]) [] [] [] 10 [] [0,6,9] [.inRegion (opsOf (mM 6)) [4,5],.code (mM 7)] IB []:={}
theorem aij:j7 29 (opsOf (mM 6)) 4 [] (.slice 28 (.tmp 6) none (some (.tmp 9)) none) 28 (some 10):={}
noncomputable abbrev D2:List Item:=[.code (mM 116),.inLoop (mM 116),.inBlock 0,.code (mM 15)]
theorem aik:Pc 15 29 [.inRegion (opsOf (mM 6)) [5],.code (mM 7)] (OG) [] [] [] 11 [] [3,4] D2 [.bF 5,i64 (.tn (v 51))] []:={}
theorem ail:Pc 15 29 D2 (AO) (fo 10 61) [(eB 60 63 10 2,i8 (.lit 0)),(eA 60 63 10 2 1,i64 (v 20))] [] 22 [100] [3,4,5] [.code (mM 3730),.code (mM 3731),.inBlock 1,.code (mM 467),.inLoop (mM 116),.inBlock 0,.code (mM 15)] [sA 60 63 61 62,i64 (v 10),bC 100] [(100,.cells [i8 (.lit 0),i64 (v 20)] 43)]:={}
theorem aim:Pc 15 29 [.inRegion (opsOf (mM 3730)) [],.code (mM 3731),.inBlock 1,.code (mM 467),.inLoop (mM 116),.inBlock 0,.code (mM 15)] ([(3,.bF 3),(4,i64 (v 10)),(28,FB)]) [] [] [] 10 [] [3,4] D2 [.bF 3,i64 (.op .add .i64 (v 10) (.lit 1))] []:={}
theorem ain:Pc 15 29 D2 (AO) tP [] [] 14 [] [2] [.code .ret] [TB] []:={}
noncomputable def mN(l:Nat):Code:=pc (bD Tryz.f80) (pd l)
theorem Wy:bT Tryz.prog 80 [.bF 0] .normal=.ok ⟨80,29,c_ 80 [.bF 0],[.code (bD Tryz.f80)],[],.run,.normal⟩:=by kernel_rfl
theorem Wz:dL 80 29 2:=fun st=>by kernel_rfl
theorem aio:Pc 80 29 [.code (bD Tryz.f80)] ([(0,sA 50 53 51 52)]) [] [] [] 10 [] [0,6,9] [.inRegion (opsOf (mN 6)) [4,5],.code (mN 7)] IB []:={}
theorem aip:j7 29 (opsOf (mN 6)) 4 [] (.slice 48 (.tmp 6) none (some (.tmp 9)) none) 48 (some 10):={}
noncomputable abbrev D3:List Item:=[.code (mN 116),.inLoop (mN 116),.inBlock 0,.code (mN 15)]
theorem aiq:Pc 80 29 [.inRegion (opsOf (mN 6)) [5],.code (mN 7)] (OG) [] [] [] 11 [] [3,4] D3 [.bF 5,i64 (.tn (v 51))] []:={}
theorem air:Pc 80 29 D3 (AO) (fo 10 61) [(eB 60 63 10 4,i8 (.lit 0)),(eA 60 63 10 4 1,i64 (.lit 0)),(eA 60 63 10 4 2,i64 (.lit 0)),(eA 60 63 10 4 3,i64 (v 20))] [] 22 [100] [3,4,5] [.code (mN 3730),.code (mN 3731),.inBlock 1,.code (mN 467),.inLoop (mN 116),.inBlock 0,.code (mN 15)] [sA 60 63 61 62,i64 (v 10),bC 100] [(100,.cells [i8 (.lit 0),i64 (.lit 0),i64 (.lit 0),i64 (v 20)] 77)]:={}
theorem ais:Pc 80 29 [.inRegion (opsOf (mN 3730)) [],.code (mN 3731),.inBlock 1,.code (mN 467),.inLoop (mN 116),.inBlock 0,.code (mN 15)] ([(3,.bF 3),(4,i64 (v 10)),(28,FB)]) [] [] [] 10 [] [3,4] D3 [.bF 3,i64 (.op .add .i64 (v 10) (.lit 1))] []:={}
theorem ait:Pc 80 29 D3 (AO) tP [] [] 14 [] [2] [.code .ret] [TB] []:={}
noncomputable abbrev rj:Array Oper:=opsOf (mM 3730)
theorem WA:dH 29 rj 0 [] [(eD 65 0,i8 (.lit 0)),(eD 65 1,i64 (v 20))] [(5,bC 65)] (.agg [i8 (.lit 0),i64 (v 20)]) 23:={}
theorem WB:dH 29 rj 1 [] [] [(4,i64 (v 10))] (i64 (v 10)) 24:={}
theorem WC:dy 29 rj 2 [(24,i64 (v 10))] 25 [i64 (.lit 9),i64 (v 10)] 25:={}
theorem WD:dH 29 rj 3 [] [] [(25,i64 (v 20))] (.agg [i8 (.lit 0),i64 (v 20)]) 26:={}
abbrev AP:List (BE×Bool):=[((.cmp .eql (v 20) (v 20)),true)]
theorem WE:dH 29 rj 4 AP [] [(23,.agg [i8 (.lit 0),i64 (v 20)]),(26,.agg [i8 (.lit 0),i64 (v 20)])] (TB) 27:={}
theorem WG:dH 29 rj 5 [] [] [(27,TB)] (FB) 28:={}
def ID(i:Nat):Nat:=match i with
 |0=>23|1=>24|2=>25|3=>26|4=>27|_=>28
noncomputable abbrev D4:List (Nat×AV):=[(3,.bF 3),(4,i64 (v 10)),(5,bC 65)]
noncomputable abbrev TV:List (AA×AV):=[(eD 65 0,i8 (.lit 0)),(eD 65 1,i64 (v 20))]
noncomputable abbrev TW:List (BE×Bool):=AP
noncomputable def yA(ρ:Env)(i:Nat)(u:Value)(w:World):Prop:=match i with
 |0=>u=(.agg [i8 (.lit 0),i64 (v 20)]:AV).ev ρ
 |1=>u=(i64 (v 10):AV).ev ρ
 |2=>u=(i64 (v 20):AV).ev ρ
 |3=>u=(.agg [i8 (.lit 0),i64 (v 20)]:AV).ev ρ
 |4=>u=(TB:AV).ev ρ
 |_=>u=(FB:AV).ev ρ
theorem GG{ρ:Env}(i:Nat)(u:Value)(w w':World)(h:yA ρ i u w)(f:bA w w'):yA ρ i u w':=by
 unfold yA at h⊢;split at h
 all_goals first|exact h
section
variable {w w0:World}{cs:List Frame}{fr:Frame}
theorem KR{ρ:Env}{i:Nat}{k:List Item}(OI:ρ.i 10=(i:Int))(OJ:ρ.i 20=((9437185+i:Nat):Int))(pi:i≤4294967296)(iH:cg ρ TW)(hmem:cq ρ w0 TV):
  ∀i,i<6->(true)=true->∀(l:List Nat) (w:World) (fr:Frame) (lv:List (Nat×Value)),bA w0 w->FA 15 29 (.inRegion rj (i::l)::k) [] .normal lv fr->(∀x∈told ρ D4,x∈lv)->(∀p∈jf rj i,∃v,(ID p,v)∈lv∧yA ρ p v w)->
   Goes (G fr cs) w fun g' w'=>∃fr' v,g'=G fr' cs∧bA w w'∧yA ρ i v w'∧FA 15 29 (.inRegion rj l::k) [] .normal (fP (ID i) v lv) fr':=by
 intro j hi he l w fr lv f hf hb hp;have bm:∀{j:Nat} {q:Nat×Value},(told ρ D4)[j]?=some q->q∈lv:=fun h=>hb _ (az h);rcases(by omega:j=0∨j=1∨j=2∨j=3∨j=4∨j=5)with rfl|rfl|rfl|rfl|rfl|rfl
 ·exact WA.di ρ hf (by decide) (cX (bm (j:=2) rfl)) trivial ⟨f.cell hmem.1,f.cell hmem.2.1,trivial⟩ rfl
 ·exact WB.di ρ hf (by decide) (cX (bm (j:=1) rfl)) trivial trivial rfl
 ·obtain⟨v1,q1,e1⟩:=hp 1 (dI (by kernel_rfl));have e1:v1=(i64 (v 10):AV).ev ρ:=e1;subst e1;exact WC.di ρ (Q:=fun u w'=>u=(i64 (v 20)).ev ρ) hf (cX q1) (fun w' f1=>by show dV 25 #[iV 9,iV (ρ.i 10)] w' _;rw[OI];refine(lS pi).mono fun u w2 hd=>⟨hd.1,?_⟩;rw[hd.2,<-OJ];rfl)
 ·obtain⟨v2,q2,e2⟩:=hp 2 (dI (by kernel_rfl));have e2:v2=(i64 (v 20):AV).ev ρ:=e2;subst e2;exact WD.di ρ hf (by decide) (cX q2) trivial trivial rfl
 ·obtain⟨v0,q0,e0⟩:=hp 0 (dI (by kernel_rfl));have e0:v0=(.agg [i8 (.lit 0),i64 (v 20)]:AV).ev ρ:=e0;subst e0;obtain⟨v3,q3,e3⟩:=hp 3 (dI (by kernel_rfl));have e3:v3=(.agg [i8 (.lit 0),i64 (v 20)]:AV).ev ρ:=e3;subst e3;exact WE.di ρ hf (by decide) (ko q0 q3) ⟨iH.1,trivial⟩ trivial rfl
 ·obtain⟨v4,q4,e4⟩:=hp 4 (dI (by kernel_rfl));have e4:v4=(TB:AV).ev ρ:=e4;subst e4;exact WG.di ρ hf (by decide) (cX q4) trivial trivial rfl
theorem OK{ρ:Env}{i:Nat}{k:List Item}{lv:List (Nat×Value)}(OI:ρ.i 10=(i:Int))(OJ:ρ.i 20=((9437185+i:Nat):Int))(pi:i≤4294967296)(iH:cg ρ TW)(hmem:cq ρ w TV)(hl:eZ lv (told ρ D4))(hf:FA 15 29 (.code (mM 3730)::k) [] .normal lv fr):
  Goes (G fr cs) w fun g' w'=>∃fr' jm,g'=G fr' cs∧bA w w'∧FA 15 29 (.inRegion rj []::k) [] .normal jm fr'∧(∀x∈told ρ D4,x∈jm)∧∀i,i<6->(true)=true->∃v,(ID i,v)∈jm∧yA ρ i v w':=by
 obtain⟨id,hid⟩:=gS (c:=mM 3730) (by kernel_rfl);have hf:=hf.only hl;rw[hid]at hf;refine(gQ hf).trans fun g1 w1 hd=>?_;obtain⟨ls,bR,rfl,f1,hs,F1⟩:=hd;refine(iw (b:=told ρ D4) (nm:=ID) (val:=yA ρ) (early:=fun _=>true) (late:=[]) (n:=6) (w0:=w) (by kernel_rfl) (by kernel_rfl) (by kernel_rfl) (by kernel_rfl) (by kernel_rfl) (by kernel_rfl) (by kernel_rfl) List.Pairwise.nil GG (KR OI OJ pi iH hmem) ls [] f1 (fun i hi=>by cases hi) hs ⟨_,F1,fun x hx=>hx,fun i hi=>by cases hi⟩).mono fun g2 w2 b_=>?_;obtain⟨cE,lv,h1,h2,h3,h4,h5⟩:=b_;exact⟨cE,lv,h1,h2,h3,h4,h5⟩
end
noncomputable abbrev aiu:List Item:=D2
section
variable {w w0:World}{cs:List Frame}{fr:Frame}
theorem D5{B n:Nat}(hlen:n≤4294967000)(hc:∀i,i<n+64->n≤i->w0.cell? ⟨B,i*2,none⟩=some (cY 0)∧w0.cell? ⟨B,i*2+1,none⟩=some (iV (9437185+i:Nat))):
  ∀(k i:Nat) {w:World} {fr:Frame},i+k=n+64->n≤i->bA w0 w->FA 15 29 aiu [] .normal [(3,bS B 0 (n+64) (n+64)),(4,iV i)] fr->
  Goes (G fr cs) w fun g' w'=>∃fr',g'=G fr' cs∧bA w0 w'∧de 15 fr' w' (.bool true)
 |0,i,w,fr,hi,hni,fw,hf=>by obtain⟨ρ,hρ⟩:∃ρ:Env,ρ=bO [(61,(n+64:Nat)),(62,(n+64:Nat)),(63,0),(10,i)] [(60,B)] []:=⟨_,rfl⟩;refine(ain.go ρ hf (by rw[hρ];rfl) ⟨by rw[hρ];exact decide_eq_false (by show ¬((i:Int)<(((n+64:Nat):Nat):Int));omega),trivial⟩ trivial).trans fun g1 w1 hd=>?_;obtain⟨I,B1,bR,rfl,f1,F1,_⟩:=hd;refine(leave1 Wx F1 rfl).mono fun g6 w6 dz=>?_;obtain⟨dK,rfl,rfl,hL⟩:=dz;exact⟨dK,rfl,fw.trans f1,hL⟩
 |k+1,i,w,fr,hi,hni,fw,hf=>by
  obtain⟨ρ,hρ⟩:∃ρ:Env,ρ=bO [(61,(n+64:Nat)),(62,(n+64:Nat)),(63,0),(10,i),(20,(9437185+i:Nat))] [(60,B)] []:=⟨_,rfl⟩;refine(ail.go ρ hf (by rw[hρ];rfl) (bX (i:=10) (n:=61) (I:=i) (N:=n+64) (by rw[hρ];rfl) (by rw[hρ];rfl) (by omega)) ⟨by rw[hρ];show w.cell? ⟨B,0+i*2,none⟩=_;rw[aF];exact fw.cell (hc i (by omega) hni).1,by rw[hρ];show w.cell? ⟨B,0+i*2+1,none⟩=_;rw[aF];exact fw.cell (hc i (by omega) hni).2,trivial⟩).trans fun g1 w1 hd=>?_;obtain⟨I,B1,bR,rfl,f1,F1,bl,_⟩:=hd;obtain⟨X,eX⟩:∃X,B1 100=X:=⟨_,rfl⟩;rw[hρ]at F1 bl;obtain⟨σ,jU⟩:∃ρ:Env,ρ=bO [(10,i),(20,(9437185+i:Nat))] [(65,B1 100)] [(3,bS B 0 (n+64) (n+64))]:=⟨_,rfl⟩;refine(OK (ρ:=σ) (i:=i) (by rw[jU];rfl) (by rw[jU];rfl) (by omega) ⟨by rw[jU];exact decide_eq_true rfl,trivial⟩ ⟨by rw[jU];exact bG bl.1.2 (i:=0) rfl,by rw[jU];exact bG bl.1.2 (i:=1) rfl,trivial⟩ (by rw[jU];rfl) F1).trans fun g2 w2 b_=>?_;obtain⟨cE,AI,rfl,f2,F2,o7,kV⟩:=b_;obtain⟨u,q,eu⟩:=kV 5 (by decide) rfl;have eu:u=(FB:AV).ev σ:=eu;subst eu;have lY:=F2.sub (jm:=[(3,bS B 0 (n+64) (n+64)),(4,iV i),(28,.bool false)]) fun x hx=>by
   simp only[ai,aA,or_false]at hx;rcases hx with rfl|rfl|rfl
   ·exact o7 _ (by rw[jU];exact aj ..)
   ·exact o7 _ (by rw[jU];exact af _ (aj ..))
   ·exact q
  refine(aim.go (bO [(10,i)] [] [(3,bS B 0 (n+64) (n+64))]) lY rfl trivial trivial).trans fun g3 w3 cv=>?_;obtain⟨I3,B3,cF,rfl,f3,F3,_⟩:=cv;refine D5 hlen hc k (i+1) (by omega) (by omega) (fw.trans (f1.trans (f2.trans f3))) ?_;rw[<-inc (i:=i) (by omega)];exact F3
theorem zF{B:Nat}{l:List (Int×Int)}(hv:(cy.vec 43 (l.length+64) (kB l (l.length+64))).at Tryz.prog w B)(hlen:l.length≤4294967000):dV 15 #[bS B 0 l.length (l.length+64)] w fun v w'=>bA w w'∧v=.bool true:=by
 refine cI fun cs=>?_;obtain⟨ρ,hρ⟩:∃ρ:Env,ρ=bO [(51,l.length),(52,(l.length+64:Nat)),(53,0)] [(50,B)] []:=⟨_,rfl⟩;refine(aii.go ρ (cC Ww rfl (bS B 0 l.length (l.length+64))) (by rw[hρ];rfl) trivial trivial).trans fun g1 w1 hd=>?_;obtain⟨I,B1,bR,rfl,f1,F1,_⟩:=hd;have fN:FA 15 29 (.inRegion (opsOf (mM 6)) [4,5]::[.code (mM 7)]) [] .normal [(0,bS B 0 l.length (l.length+64)),(6,bS B 0 l.length (l.length+64)),(9,iV (l.length+64:Nat))] bR:=by rw[<-lG hlen];rw[hρ]at F1;exact F1
 refine(aij.go (R:=fun y w'=>y=bS B 0 (l.length+64) (l.length+64)∧w'=w1) (bO [] [] []) fN (by decide) rfl fun tm ir x' e1 e2=>?_).trans fun g2 w2 b_=>?_
 ·unfold execOp;simp only[e1,bH,av,aM];rw[ir 6 _ rfl,ir 9 (iV (l.length+64:Nat)) rfl];exact tX (t:=28) (elem:=43) (size:=2) (by kernel_rfl) (by kernel_rfl) (ay _) (by omega) ⟨_,rfl,rfl,rfl⟩
 obtain⟨cE,y,rfl,⟨rfl,rfl⟩,F2⟩:=b_;refine(aik.go (bO [(51,l.length),(52,(l.length+64:Nat)),(53,0)] [(50,B)] [(5,bS B 0 (l.length+64) (l.length+64))]) F2 rfl trivial trivial).trans fun g3 w3 cv=>?_;obtain⟨I3,B3,cF,rfl,f3,F3,_⟩:=cv;refine(D5 (w0:=w3) (n:=l.length) hlen (fun i hi hni=>?_) 64 l.length (by omega) (ay _) (bA.refl _) F3).mono fun g4 w4 dh=>?_
 ·have e:∀r,r<2->(kB l (l.length+64))[i*2+r]?=[cY 0,iV (9437185+i:Nat)][r]?:=fun r hr=>by
   refine(kO (f:=tT l) (sz:=2) (yu l) (l.length+64) i r hi hr).trans ?_;unfold tT;rw[show l[i]?=none from aQ (by omega)];rfl
  exact⟨(f1.trans f3).cell (cy.cS hv (e 0 (by decide))),(f1.trans f3).cell (cy.cS hv (e 1 (by decide)))⟩
 ·obtain⟨eO,rfl,f4,hL⟩:=dh;exact⟨eO,_,rfl,hL,(f1.trans f3).trans f4,rfl⟩
end
noncomputable abbrev rq:Array Oper:=opsOf (mN 3730)
noncomputable abbrev TX:List (AA×AV):=[(eD 65 0,i8 (.lit 0)),(eD 65 1,i64 (.lit 0)),(eD 65 2,i64 (.lit 0)),(eD 65 3,i64 (v 20))]
theorem WH:dH 29 rq 0 [] TX [(5,bC 65)] (.agg [i8 (.lit 0),i64 (.lit 0),i64 (.lit 0),i64 (v 20)]) 23:={}
theorem WI:dH 29 rq 1 [] [] [(4,i64 (v 10))] (i64 (v 10)) 24:={}
theorem WJ:dy 29 rq 2 [(24,i64 (v 10))] 25 [i64 (.lit 9),i64 (v 10)] 25:={}
theorem WK:dH 29 rq 3 [] [] [(25,i64 (v 20))] (.agg [i8 (.lit 0),i64 (.lit 0),i64 (.lit 0),i64 (v 20)]) 26:={}
theorem WL:dH 29 rq 4 AP [] [(23,.agg [i8 (.lit 0),i64 (.lit 0),i64 (.lit 0),i64 (v 20)]),(26,.agg [i8 (.lit 0),i64 (.lit 0),i64 (.lit 0),i64 (v 20)])] (TB) 27:={}
theorem WM:dH 29 rq 5 [] [] [(27,TB)] (FB) 28:={}
def IF(i:Nat):Nat:=match i with
 |0=>23|1=>24|2=>25|3=>26|4=>27|_=>28
noncomputable abbrev D6:List (Nat×AV):=[(3,.bF 3),(4,i64 (v 10)),(5,bC 65)]
noncomputable abbrev TY:List (AA×AV):=TX
noncomputable abbrev TZ:List (BE×Bool):=AP
noncomputable def yB(ρ:Env)(i:Nat)(u:Value)(w:World):Prop:=match i with
 |0=>u=(.agg [i8 (.lit 0),i64 (.lit 0),i64 (.lit 0),i64 (v 20)]:AV).ev ρ
 |1=>u=(i64 (v 10):AV).ev ρ
 |2=>u=(i64 (v 20):AV).ev ρ
 |3=>u=(.agg [i8 (.lit 0),i64 (.lit 0),i64 (.lit 0),i64 (v 20)]:AV).ev ρ
 |4=>u=(TB:AV).ev ρ
 |_=>u=(FB:AV).ev ρ
theorem GH{ρ:Env}(i:Nat)(u:Value)(w w':World)(h:yB ρ i u w)(f:bA w w'):yB ρ i u w':=by
 unfold yB at h⊢;split at h
 all_goals first|exact h
section
variable {w w0:World}{cs:List Frame}{fr:Frame}
theorem KS{ρ:Env}{i:Nat}{k:List Item}(OI:ρ.i 10=(i:Int))(OJ:ρ.i 20=((9437185+i:Nat):Int))(pi:i≤4294967296)(iH:cg ρ TZ)(hmem:cq ρ w0 TY):
  ∀i,i<6->(true)=true->∀(l:List Nat) (w:World) (fr:Frame) (lv:List (Nat×Value)),bA w0 w->FA 80 29 (.inRegion rq (i::l)::k) [] .normal lv fr->(∀x∈told ρ D6,x∈lv)->(∀p∈jf rq i,∃v,(IF p,v)∈lv∧yB ρ p v w)->
   Goes (G fr cs) w fun g' w'=>∃fr' v,g'=G fr' cs∧bA w w'∧yB ρ i v w'∧FA 80 29 (.inRegion rq l::k) [] .normal (fP (IF i) v lv) fr':=by
 intro j hi he l w fr lv f hf hb hp;have bm:∀{j:Nat} {q:Nat×Value},(told ρ D6)[j]?=some q->q∈lv:=fun h=>hb _ (az h);rcases(by omega:j=0∨j=1∨j=2∨j=3∨j=4∨j=5)with rfl|rfl|rfl|rfl|rfl|rfl
 ·exact WH.di ρ hf (by decide) (cX (bm (j:=2) rfl)) trivial ⟨f.cell hmem.1,f.cell hmem.2.1,f.cell hmem.2.2.1,f.cell hmem.2.2.2.1,trivial⟩ rfl
 ·exact WI.di ρ hf (by decide) (cX (bm (j:=1) rfl)) trivial trivial rfl
 ·obtain⟨v1,q1,e1⟩:=hp 1 (dI (by kernel_rfl));have e1:v1=(i64 (v 10):AV).ev ρ:=e1;subst e1;exact WJ.di ρ (Q:=fun u w'=>u=(i64 (v 20)).ev ρ) hf (cX q1) (fun w' f1=>by show dV 25 #[iV 9,iV (ρ.i 10)] w' _;rw[OI];refine(lS pi).mono fun u w2 hd=>⟨hd.1,?_⟩;rw[hd.2,<-OJ];rfl)
 ·obtain⟨v2,q2,e2⟩:=hp 2 (dI (by kernel_rfl));have e2:v2=(i64 (v 20):AV).ev ρ:=e2;subst e2;exact WK.di ρ hf (by decide) (cX q2) trivial trivial rfl
 ·obtain⟨v0,q0,e0⟩:=hp 0 (dI (by kernel_rfl));have e0:v0=(.agg [i8 (.lit 0),i64 (.lit 0),i64 (.lit 0),i64 (v 20)]:AV).ev ρ:=e0;subst e0;obtain⟨v3,q3,e3⟩:=hp 3 (dI (by kernel_rfl));have e3:v3=(.agg [i8 (.lit 0),i64 (.lit 0),i64 (.lit 0),i64 (v 20)]:AV).ev ρ:=e3;subst e3;exact WL.di ρ hf (by decide) (ko q0 q3) ⟨iH.1,trivial⟩ trivial rfl
 ·obtain⟨v4,q4,e4⟩:=hp 4 (dI (by kernel_rfl));have e4:v4=(TB:AV).ev ρ:=e4;subst e4;exact WM.di ρ hf (by decide) (cX q4) trivial trivial rfl
theorem OL{ρ:Env}{i:Nat}{k:List Item}{lv:List (Nat×Value)}(OI:ρ.i 10=(i:Int))(OJ:ρ.i 20=((9437185+i:Nat):Int))(pi:i≤4294967296)(iH:cg ρ TZ)(hmem:cq ρ w TY)(hl:eZ lv (told ρ D6))(hf:FA 80 29 (.code (mN 3730)::k) [] .normal lv fr):
  Goes (G fr cs) w fun g' w'=>∃fr' jm,g'=G fr' cs∧bA w w'∧FA 80 29 (.inRegion rq []::k) [] .normal jm fr'∧(∀x∈told ρ D6,x∈jm)∧∀i,i<6->(true)=true->∃v,(IF i,v)∈jm∧yB ρ i v w':=by
 obtain⟨id,hid⟩:=gS (c:=mN 3730) (by kernel_rfl);have hf:=hf.only hl;rw[hid]at hf;refine(gQ hf).trans fun g1 w1 hd=>?_;obtain⟨ls,bR,rfl,f1,hs,F1⟩:=hd;refine(iw (b:=told ρ D6) (nm:=IF) (val:=yB ρ) (early:=fun _=>true) (late:=[]) (n:=6) (w0:=w) (by kernel_rfl) (by kernel_rfl) (by kernel_rfl) (by kernel_rfl) (by kernel_rfl) (by kernel_rfl) (by kernel_rfl) List.Pairwise.nil GH (KS OI OJ pi iH hmem) ls [] f1 (fun i hi=>by cases hi) hs ⟨_,F1,fun x hx=>hx,fun i hi=>by cases hi⟩).mono fun g2 w2 b_=>?_;obtain⟨cE,lv,h1,h2,h3,h4,h5⟩:=b_;exact⟨cE,lv,h1,h2,h3,h4,h5⟩
end
noncomputable abbrev aiv:List Item:=D3
section
variable {w w0:World}{cs:List Frame}{fr:Frame}
theorem D7{B n:Nat}(hlen:n≤4294967000)(hc:∀i,i<n+64->n≤i->w0.cell? ⟨B,i*4,none⟩=some (cY 0)∧w0.cell? ⟨B,i*4+1,none⟩=some (iV 0)∧w0.cell? ⟨B,i*4+2,none⟩=some (iV 0)∧w0.cell? ⟨B,i*4+3,none⟩=some (iV (9437185+i:Nat))):
  ∀(k i:Nat) {w:World} {fr:Frame},i+k=n+64->n≤i->bA w0 w->FA 80 29 aiv [] .normal [(3,bS B 0 (n+64) (n+64)),(4,iV i)] fr->
  Goes (G fr cs) w fun g' w'=>∃fr',g'=G fr' cs∧bA w0 w'∧de 80 fr' w' (.bool true)
 |0,i,w,fr,hi,hni,fw,hf=>by obtain⟨ρ,hρ⟩:∃ρ:Env,ρ=bO [(61,(n+64:Nat)),(62,(n+64:Nat)),(63,0),(10,i)] [(60,B)] []:=⟨_,rfl⟩;refine(ait.go ρ hf (by rw[hρ];rfl) ⟨by rw[hρ];exact decide_eq_false (by show ¬((i:Int)<(((n+64:Nat):Nat):Int));omega),trivial⟩ trivial).trans fun g1 w1 hd=>?_;obtain⟨I,B1,bR,rfl,f1,F1,_⟩:=hd;refine(leave1 Wz F1 rfl).mono fun g6 w6 dz=>?_;obtain⟨dK,rfl,rfl,hL⟩:=dz;exact⟨dK,rfl,fw.trans f1,hL⟩
 |k+1,i,w,fr,hi,hni,fw,hf=>by
  obtain⟨ρ,hρ⟩:∃ρ:Env,ρ=bO [(61,(n+64:Nat)),(62,(n+64:Nat)),(63,0),(10,i),(20,(9437185+i:Nat))] [(60,B)] []:=⟨_,rfl⟩;refine(air.go ρ hf (by rw[hρ];rfl) (bX (i:=10) (n:=61) (I:=i) (N:=n+64) (by rw[hρ];rfl) (by rw[hρ];rfl) (by omega)) ⟨by rw[hρ];show w.cell? ⟨B,0+i*4,none⟩=_;rw[aF];exact fw.cell (hc i (by omega) hni).1,by rw[hρ];show w.cell? ⟨B,0+i*4+1,none⟩=_;rw[aF];exact fw.cell (hc i (by omega) hni).2.1,by rw[hρ];show w.cell? ⟨B,0+i*4+2,none⟩=_;rw[aF];exact fw.cell (hc i (by omega) hni).2.2.1,by rw[hρ];show w.cell? ⟨B,0+i*4+3,none⟩=_;rw[aF];exact fw.cell (hc i (by omega) hni).2.2.2,trivial⟩).trans fun g1 w1 hd=>?_;obtain⟨I,B1,bR,rfl,f1,F1,bl,_⟩:=hd;obtain⟨X,eX⟩:∃X,B1 100=X:=⟨_,rfl⟩;rw[hρ]at F1 bl;obtain⟨σ,jU⟩:∃ρ:Env,ρ=bO [(10,i),(20,(9437185+i:Nat))] [(65,B1 100)] [(3,bS B 0 (n+64) (n+64))]:=⟨_,rfl⟩;refine(OL (ρ:=σ) (i:=i) (by rw[jU];rfl) (by rw[jU];rfl) (by omega) ⟨by rw[jU];exact decide_eq_true rfl,trivial⟩ ⟨by rw[jU];exact bG bl.1.2 (i:=0) rfl,by rw[jU];exact bG bl.1.2 (i:=1) rfl,by rw[jU];exact bG bl.1.2 (i:=2) rfl,by rw[jU];exact bG bl.1.2 (i:=3) rfl,trivial⟩ (by rw[jU];rfl) F1).trans fun g2 w2 b_=>?_;obtain⟨cE,AI,rfl,f2,F2,o7,kV⟩:=b_;obtain⟨u,q,eu⟩:=kV 5 (by decide) rfl;have eu:u=(FB:AV).ev σ:=eu;subst eu;have lY:=F2.sub (jm:=[(3,bS B 0 (n+64) (n+64)),(4,iV i),(28,.bool false)]) fun x hx=>by
   simp only[ai,aA,or_false]at hx;rcases hx with rfl|rfl|rfl
   ·exact o7 _ (by rw[jU];exact aj ..)
   ·exact o7 _ (by rw[jU];exact af _ (aj ..))
   ·exact q
  refine(ais.go (bO [(10,i)] [] [(3,bS B 0 (n+64) (n+64))]) lY rfl trivial trivial).trans fun g3 w3 cv=>?_;obtain⟨I3,B3,cF,rfl,f3,F3,_⟩:=cv;refine D7 hlen hc k (i+1) (by omega) (by omega) (fw.trans (f1.trans (f2.trans f3))) ?_;rw[<-inc (i:=i) (by omega)];exact F3
theorem yC{B:Nat}{l:List Nd}(hv:(cy.vec 77 (l.length+64) (jz l (l.length+64))).at Tryz.prog w B)(hlen:l.length≤4294967000):dV 80 #[bS B 0 l.length (l.length+64)] w fun v w'=>bA w w'∧v=.bool true:=by
 refine cI fun cs=>?_;obtain⟨ρ,hρ⟩:∃ρ:Env,ρ=bO [(51,l.length),(52,(l.length+64:Nat)),(53,0)] [(50,B)] []:=⟨_,rfl⟩;refine(aio.go ρ (cC Wy rfl (bS B 0 l.length (l.length+64))) (by rw[hρ];rfl) trivial trivial).trans fun g1 w1 hd=>?_;obtain⟨I,B1,bR,rfl,f1,F1,_⟩:=hd;have fN:FA 80 29 (.inRegion (opsOf (mN 6)) [4,5]::[.code (mN 7)]) [] .normal [(0,bS B 0 l.length (l.length+64)),(6,bS B 0 l.length (l.length+64)),(9,iV (l.length+64:Nat))] bR:=by rw[<-lG hlen];rw[hρ]at F1;exact F1
 refine(aip.go (R:=fun y w'=>y=bS B 0 (l.length+64) (l.length+64)∧w'=w1) (bO [] [] []) fN (by decide) rfl fun tm ir x' e1 e2=>?_).trans fun g2 w2 b_=>?_
 ·unfold execOp;simp only[e1,bH,av,aM];rw[ir 6 _ rfl,ir 9 (iV (l.length+64:Nat)) rfl];exact tX (t:=48) (elem:=77) (size:=4) (by kernel_rfl) (by kernel_rfl) (ay _) (by omega) ⟨_,rfl,rfl,rfl⟩
 obtain⟨cE,y,rfl,⟨rfl,rfl⟩,F2⟩:=b_;refine(aiq.go (bO [(51,l.length),(52,(l.length+64:Nat)),(53,0)] [(50,B)] [(5,bS B 0 (l.length+64) (l.length+64))]) F2 rfl trivial trivial).trans fun g3 w3 cv=>?_;obtain⟨I3,B3,cF,rfl,f3,F3,_⟩:=cv;refine(D7 (w0:=w3) (n:=l.length) hlen (fun i hi hni=>?_) 64 l.length (by omega) (ay _) (bA.refl _) F3).mono fun g4 w4 dh=>?_
 ·have e:∀r,r<4->(jz l (l.length+64))[i*4+r]?=[cY 0,iV 0,iV 0,iV (9437185+i:Nat)][r]?:=fun r hr=>by
   refine(kO (f:=sr l) (sz:=4) (yp l) (l.length+64) i r hi hr).trans ?_;unfold sr;rw[show l[i]?=none from aQ (by omega)];rfl
  exact⟨(f1.trans f3).cell (cy.cS hv (e 0 (by decide))),(f1.trans f3).cell (cy.cS hv (e 1 (by decide))),(f1.trans f3).cell (cy.cS hv (e 2 (by decide))),(f1.trans f3).cell (cy.cS hv (e 3 (by decide)))⟩
 ·obtain⟨eO,rfl,f4,hL⟩:=dh;exact⟨eO,_,rfl,hL,(f1.trans f3).trans f4,rfl⟩
end
noncomputable def WN(l:Nat):Code:=pc (bD Tryz.f57) (pd l)
theorem WO:bT Tryz.prog 57 [.bF 0] .normal=.ok ⟨57,6,c_ 57 [.bF 0],[.code (bD Tryz.f57)],[],.run,.normal⟩:=by kernel_rfl
theorem WQ:dL 57 6 2:=fun st=>by kernel_rfl
theorem aiw:Pc 57 6 [.code (bD Tryz.f57)] ([(0,.agg [ss 1,.bF 7,i64 (v 4)])]) [] [] [] 9 [] [4] [.inRegion (opsOf (WN 6)) [2,3],.code .ret] [.bF 7] []:={}
theorem aix:dy 6 (opsOf (WN 6)) 2 [(4,.bF 4)] 80 [.bF 4] 5:={}
theorem aiy:Pc 57 6 [.inRegion (opsOf (WN 6)) [3],.code .ret] ([(5,TB)]) [] [] [] 2 [] [2] [.code .ret] [TB] []:={}
section
variable {w:World}
theorem BU{base:Nat}{x:cx}{ts:Value}(h:jr w base ts x.tree)(hn:x.tree.length≤4294967000):dV 57 #[fK x ts] w fun v w'=>bA w w'∧v=.bool true:=by refine cI fun cs=>?_;refine(aiw.go (Go.Proofs.YtmobbajggkjpgaaGreat.SX.iS [(4,x.cj)] [] [(7,ts)] [(1,x.name)]) (cC WO rfl (fK x ts)) rfl trivial trivial).trans fun g1 w1 hd=>?_;obtain⟨I,B,bR,rfl,f1,F1,_⟩:=hd;obtain⟨B0,_,rfl,hv⟩:=h;refine(aix.go (bO [] [] [(4,bS B0 0 x.tree.length (x.tree.length+64))]) (Q:=fun v w'=>v=.bool true) F1 rfl fun w' f=>yC (bP hv (f1.trans f)) hn).trans fun g2 w2 b_=>?_;obtain⟨cE,vv,rfl,f2,rfl,F2⟩:=b_;refine(aiy.go (bO [] [] []) F2 rfl trivial trivial).trans fun g3 w3 cv=>?_;obtain⟨I3,B3,cF,rfl,f3,F3,_⟩:=cv;refine(leave1 WQ F3 rfl).mono fun g6 w6 dz=>?_;obtain⟨dK,rfl,rfl,hL⟩:=dz;exact⟨dK,_,rfl,hL,f1.trans (f2.trans f3),rfl⟩
theorem KT{B:Nat}{l:List (Int×Int)}(hv:(cy.vec 43 (l.length+64) (kB l (l.length+64))).at Tryz.prog w B):ei w (bS B 0 l.length (l.length+64)) l:=by
 refine⟨false,B,0,l.length+64,rfl,(fun h=>by cases h),fun _=>by omega,fun i e hi=>?_⟩;have hl:=(ak.1 hi).1;have g:∀r,r<2->(kB l (l.length+64))[i*2+r]?=(h_ e)[r]?:=fun r hr=>by refine(kO (f:=tT l) (sz:=2) (yu l) (l.length+64) i r (by omega) hr).trans ?_;unfold tT;rw[hi]
 rw[aF];exact⟨cy.cS hv (g 0 (by decide)),cy.cS hv (g 1 (by decide))⟩
end
noncomputable def iW(l:Nat):Code:=pc (bD Tryz.f34) (pd l)
theorem WR:bT Tryz.prog 34 [.bF 0] .normal=.ok ⟨34,53,c_ 34 [.bF 0],[.code (bD Tryz.f34)],[],.run,.normal⟩:=by kernel_rfl
theorem WS:dL 34 53 2:=fun st=>by kernel_rfl
theorem aiz:Pc 34 53 [.code (bD Tryz.f34)] ([(0,sA 50 53 51 52)]) [] [] [] 10 [] [0,7,10] [.inRegion (opsOf (iW 6)) [4,5],.code (iW 7)] IB []:={}
theorem aiA:j7 53 (opsOf (iW 6)) 4 [] (.slice 22 (.tmp 7) none (some (.tmp 10)) none) 22 (some 11):={}
noncomputable abbrev D8:List Item:=[.code (iW 116),.inLoop (iW 116),.inBlock 0,.code (iW 15)]
theorem aiB:Pc 34 53 [.inRegion (opsOf (iW 6)) [5],.code (iW 7)] ([(0,sA 50 53 51 52),(11,.bF 5)]) [] [] [] 11 [] [0,3,4] D8 [sA 50 53 51 52,.bF 5,i64 (.tn (v 51))] []:={}
theorem aiC:Pc 34 53 D8 (q_) (fo 10 61) [(eB 60 63 10 3,.str ⟨#[]⟩),(eA 60 63 10 3 1,cn),(eA 60 63 10 3 2,i64 (v 20))] [] 22 [100] [0,3,4,5] [.code (iW 3730),.code (iW 3731),.inBlock 1,.code (iW 467),.inLoop (iW 116),.inBlock 0,.code (iW 15)] [.bF 0,sA 60 63 61 62,i64 (v 10),bC 100] [(100,.cells [.str ⟨#[]⟩,cn,i64 (v 20)] 50)]:={}
theorem aiD:Pc 34 53 [.inRegion (opsOf (iW 3730)) [],.code (iW 3731),.inBlock 1,.code (iW 467),.inLoop (iW 116),.inBlock 0,.code (iW 15)] ([(0,.bF 0),(3,.bF 3),(4,i64 (v 10)),(40,FB)]) [] [] [] 10 [] [0,3,4] D8 [.bF 0,.bF 3,i64 (.op .add .i64 (v 10) (.lit 1))] []:={}
noncomputable abbrev D9:List Item:=[.code (iW 244),.inLoop (iW 244),.inBlock 2,.code (iW 31)]
theorem aiE:Pc 34 53 D8 (q_) tP [] [] 17 [] [0,6] D9 [.bF 0,i64 (.lit 0)] []:={}
theorem aiF:Pc 34 53 D9 ([(0,sA 50 53 51 52),(6,i64 (v 10))]) (fo 10 51) TU [] 18 [] [0,6,50] [.inRegion (opsOf (iW 3912)) [4,5],.code (iW 3913),.inBlock 3,.code (iW 979),.inLoop (iW 244),.inBlock 2,.code (iW 31)] [sA 50 53 51 52,i64 (v 10),.agg [ss 1,.bF 7,i64 (v 9)]] []:={}
theorem aiG:dy 53 (opsOf (iW 3912)) 4 [(50,.bF 50)] 57 [.bF 50] 51:={}
theorem aiH:Pc 34 53 [.inRegion (opsOf (iW 3912)) [5],.code (iW 3913),.inBlock 3,.code (iW 979),.inLoop (iW 244),.inBlock 2,.code (iW 31)] ([(0,.bF 0),(6,i64 (v 10)),(51,TB)]) [] [] [] 11 [] [0,6] D9 [.bF 0,i64 (.op .add .i64 (v 10) (.lit 1))] []:={}
theorem aiI:Pc 34 53 D9 ([(0,sA 50 53 51 52),(6,i64 (v 10))]) Ao [] [] 14 [] [2] [.code .ret] [TB] []:={}
noncomputable abbrev jA:Array Oper:=opsOf (iW 3730)
theorem WT:dH 53 jA 0 [] [] [(5,bC 65)] (.ptr (some (eD 65 2))) 24:={}
theorem WU:dH 53 jA 1 [] [(eD 65 2,i64 (v 20))] [(24,.ptr (some (eD 65 2)))] (i64 (v 20)) 25:={}
theorem WV:dH 53 jA 2 [] [] [(4,i64 (v 10))] (i64 (v 10)) 26:={}
theorem WW:dy 53 jA 3 [(26,i64 (v 10))] 25 [i64 (.lit 9),i64 (v 10)] 27:={}
theorem WX:dH 53 jA 4 AP [] [(25,i64 (v 20)),(27,i64 (v 20))] (TB) 28:={}
theorem WY:dH 53 jA 5 [] [] [(28,TB)] (TB) 29:={}
theorem WZ:dH 53 jA 6 [] [] [(29,TB),(5,bC 65)] (bC 65) 30:={}
theorem W1:dH 53 jA 7 [] [(eD 65 0,.str ⟨#[]⟩)] [(29,TB),(30,bC 65)] (.str ⟨#[]⟩) 31:={}
theorem W3:dH 53 jA 8 [] [] [(29,TB),(31,.str ⟨#[]⟩)] (TB) 32:={}
theorem W4:dH 53 jA 9 [] [] [(29,TB),(32,TB)] (TB) 33:={}
theorem RL:dH 53 jA 10 [] [] [(33,TB)] (TB) 34:={}
theorem RM:dH 53 jA 11 [] [] [(34,TB),(5,bC 65)] (.ptr (some (eD 65 1))) 35:={}
theorem RN:dH 53 jA 12 [] [(eD 65 1,cn)] [(34,TB),(35,.ptr (some (eD 65 1)))] (cn) 36:={}
theorem RO:dH 53 jA 13 [] [] [(34,TB),(36,cn)] (i64 (.lit 0)) 37:={}
theorem RP:dH 53 jA 14 [] [] [(34,TB),(37,i64 (.lit 0))] (TB) 38:={}
theorem RQ:dH 53 jA 15 [] [] [(34,TB),(38,TB)] (TB) 39:={}
theorem RR:dH 53 jA 16 [] [] [(39,TB)] (FB) 40:={}
def IG(i:Nat):Nat:=match i with
 |0=>24|1=>25|2=>26|3=>27|4=>28|5=>29|6=>30|7=>31|8=>32|9=>33|10=>34|11=>35|12=>36|13=>37|14=>38|15=>39|_=>40
noncomputable abbrev D_:List (Nat×AV):=[(0,.bF 0),(3,.bF 3),(4,i64 (v 10)),(5,bC 65)]
noncomputable abbrev T1:List (AA×AV):=[(eD 65 0,.str ⟨#[]⟩),(eD 65 1,cn),(eD 65 2,i64 (v 20))]
noncomputable abbrev T3:List (BE×Bool):=AP
noncomputable def yD(ρ:Env)(i:Nat)(u:Value)(w:World):Prop:=match i with
 |0=>u=(.ptr (some (eD 65 2)):AV).ev ρ
 |1=>u=(i64 (v 20):AV).ev ρ
 |2=>u=(i64 (v 10):AV).ev ρ
 |3=>u=(i64 (v 20):AV).ev ρ
 |4=>u=(TB:AV).ev ρ
 |5=>u=(TB:AV).ev ρ
 |6=>u=(bC 65:AV).ev ρ
 |7=>u=(.str ⟨#[]⟩:AV).ev ρ
 |8=>u=(TB:AV).ev ρ
 |9=>u=(TB:AV).ev ρ
 |10=>u=(TB:AV).ev ρ
 |11=>u=(.ptr (some (eD 65 1)):AV).ev ρ
 |12=>u=(cn:AV).ev ρ
 |13=>u=(i64 (.lit 0):AV).ev ρ
 |14=>u=(TB:AV).ev ρ
 |15=>u=(TB:AV).ev ρ
 |_=>u=(FB:AV).ev ρ
theorem GI{ρ:Env}(i:Nat)(u:Value)(w w':World)(h:yD ρ i u w)(f:bA w w'):yD ρ i u w':=by
 unfold yD at h⊢;split at h
 all_goals first|exact h
section
variable {w w0:World}{cs:List Frame}{fr:Frame}
theorem KU{ρ:Env}{i:Nat}{k:List Item}(OI:ρ.i 10=(i:Int))(OJ:ρ.i 20=((9437185+i:Nat):Int))(pi:i≤4294967296)(iH:cg ρ T3)(hmem:cq ρ w0 T1):
  ∀i,i<17->(true)=true->∀(l:List Nat) (w:World) (fr:Frame) (lv:List (Nat×Value)),bA w0 w->FA 34 53 (.inRegion jA (i::l)::k) [] .normal lv fr->(∀x∈told ρ D_,x∈lv)->(∀p∈jf jA i,∃v,(IG p,v)∈lv∧yD ρ p v w)->
   Goes (G fr cs) w fun g' w'=>∃fr' v,g'=G fr' cs∧bA w w'∧yD ρ i v w'∧FA 34 53 (.inRegion jA l::k) [] .normal (fP (IG i) v lv) fr':=by
 intro j hi he l w fr lv f hf hb hp;have bm:∀{j:Nat} {q:Nat×Value},(told ρ D_)[j]?=some q->q∈lv:=fun h=>hb _ (az h);rcases(by omega:j=0∨j=1∨j=2∨j=3∨j=4∨j=5∨j=6∨j=7∨j=8∨j=9∨j=10∨j=11∨j=12∨j=13∨j=14∨j=15∨j=16)with rfl|rfl|rfl|rfl|rfl|rfl|rfl|rfl|rfl|rfl|rfl|rfl|rfl|rfl|rfl|rfl|rfl
 ·exact WT.di ρ hf (by decide) (cX (bm (j:=3) rfl)) trivial trivial rfl
 ·obtain⟨v0,q0,e0⟩:=hp 0 (dI (by kernel_rfl));have e0:v0=(.ptr (some (eD 65 2)):AV).ev ρ:=e0;subst e0;exact WU.di ρ hf (by decide) (cX q0) trivial ⟨f.cell hmem.2.2.1,trivial⟩ rfl
 ·exact WV.di ρ hf (by decide) (cX (bm (j:=2) rfl)) trivial trivial rfl
 ·obtain⟨v2,q2,e2⟩:=hp 2 (dI (by kernel_rfl));have e2:v2=(i64 (v 10):AV).ev ρ:=e2;subst e2;exact WW.di ρ (Q:=fun u w'=>u=(i64 (v 20)).ev ρ) hf (cX q2) (fun w' f1=>by show dV 25 #[iV 9,iV (ρ.i 10)] w' _;rw[OI];refine(lS pi).mono fun u w2 hd=>⟨hd.1,?_⟩;rw[hd.2,<-OJ];rfl)
 ·obtain⟨v1,q1,e1⟩:=hp 1 (dI (by kernel_rfl));have e1:v1=(i64 (v 20):AV).ev ρ:=e1;subst e1;obtain⟨v3,q3,e3⟩:=hp 3 (dI (by kernel_rfl));have e3:v3=(i64 (v 20):AV).ev ρ:=e3;subst e3;exact WX.di ρ hf (by decide) (ko q1 q3) ⟨iH.1,trivial⟩ trivial rfl
 ·obtain⟨v4,q4,e4⟩:=hp 4 (dI (by kernel_rfl));have e4:v4=(TB:AV).ev ρ:=e4;subst e4;exact WY.di ρ hf (by decide) (cX q4) trivial trivial rfl
 ·obtain⟨v5,q5,e5⟩:=hp 5 (dI (by kernel_rfl));have e5:v5=(TB:AV).ev ρ:=e5;subst e5;exact WZ.di ρ hf (by decide) (ko q5 (bm (j:=3) rfl)) trivial trivial rfl
 ·obtain⟨v5,q5,e5⟩:=hp 5 (dI (by kernel_rfl));have e5:v5=(TB:AV).ev ρ:=e5;subst e5;obtain⟨v6,q6,e6⟩:=hp 6 (dI (by kernel_rfl));have e6:v6=(bC 65:AV).ev ρ:=e6;subst e6;exact W1.di ρ hf (by decide) (ko q5 q6) trivial ⟨f.cell hmem.1,trivial⟩ rfl
 ·obtain⟨v5,q5,e5⟩:=hp 5 (dI (by kernel_rfl));have e5:v5=(TB:AV).ev ρ:=e5;subst e5;obtain⟨v7,q7,e7⟩:=hp 7 (dI (by kernel_rfl));have e7:v7=(.str ⟨#[]⟩:AV).ev ρ:=e7;subst e7;exact W3.di ρ hf (by decide) (ko q5 q7) trivial trivial rfl
 ·obtain⟨v5,q5,e5⟩:=hp 5 (dI (by kernel_rfl));have e5:v5=(TB:AV).ev ρ:=e5;subst e5;obtain⟨v8,q8,e8⟩:=hp 8 (dI (by kernel_rfl));have e8:v8=(TB:AV).ev ρ:=e8;subst e8;exact W4.di ρ hf (by decide) (ko q5 q8) trivial trivial rfl
 ·obtain⟨v9,q9,e9⟩:=hp 9 (dI (by kernel_rfl));have e9:v9=(TB:AV).ev ρ:=e9;subst e9;exact RL.di ρ hf (by decide) (cX q9) trivial trivial rfl
 ·obtain⟨v10,Gu,p_⟩:=hp 10 (dI (by kernel_rfl));have p_:v10=(TB:AV).ev ρ:=p_;subst p_;exact RM.di ρ hf (by decide) (ko Gu (bm (j:=3) rfl)) trivial trivial rfl
 ·obtain⟨v10,Gu,p_⟩:=hp 10 (dI (by kernel_rfl));have p_:v10=(TB:AV).ev ρ:=p_;subst p_;obtain⟨v11,TM,zB⟩:=hp 11 (dI (by kernel_rfl));have zB:v11=(.ptr (some (eD 65 1)):AV).ev ρ:=zB;subst zB;exact RN.di ρ hf (by decide) (ko Gu TM) trivial ⟨f.cell hmem.2.1,trivial⟩ rfl
 ·obtain⟨v10,Gu,p_⟩:=hp 10 (dI (by kernel_rfl));have p_:v10=(TB:AV).ev ρ:=p_;subst p_;obtain⟨v12,sj,BJ⟩:=hp 12 (dI (by kernel_rfl));have BJ:v12=(cn:AV).ev ρ:=BJ;subst BJ;exact RO.di ρ hf (by decide) (ko Gu sj) trivial trivial rfl
 ·obtain⟨v10,Gu,p_⟩:=hp 10 (dI (by kernel_rfl));have p_:v10=(TB:AV).ev ρ:=p_;subst p_;obtain⟨VX,zD,BI⟩:=hp 13 (dI (by kernel_rfl));have BI:VX=(i64 (.lit 0):AV).ev ρ:=BI;subst BI;exact RP.di ρ hf (by decide) (ko Gu zD) trivial trivial rfl
 ·obtain⟨v10,Gu,p_⟩:=hp 10 (dI (by kernel_rfl));have p_:v10=(TB:AV).ev ρ:=p_;subst p_;obtain⟨v14,q14,Nx⟩:=hp 14 (dI (by kernel_rfl));have Nx:v14=(TB:AV).ev ρ:=Nx;subst Nx;exact RQ.di ρ hf (by decide) (ko Gu q14) trivial trivial rfl
 ·obtain⟨v15,q15,Ny⟩:=hp 15 (dI (by kernel_rfl));have Ny:v15=(TB:AV).ev ρ:=Ny;subst Ny;exact RR.di ρ hf (by decide) (cX q15) trivial trivial rfl
theorem OM{ρ:Env}{i:Nat}{k:List Item}{lv:List (Nat×Value)}(OI:ρ.i 10=(i:Int))(OJ:ρ.i 20=((9437185+i:Nat):Int))(pi:i≤4294967296)(iH:cg ρ T3)(hmem:cq ρ w T1)(hl:eZ lv (told ρ D_))(hf:FA 34 53 (.code (iW 3730)::k) [] .normal lv fr):
  Goes (G fr cs) w fun g' w'=>∃fr' jm,g'=G fr' cs∧bA w w'∧FA 34 53 (.inRegion jA []::k) [] .normal jm fr'∧(∀x∈told ρ D_,x∈jm)∧∀i,i<17->(true)=true->∃v,(IG i,v)∈jm∧yD ρ i v w':=by
 obtain⟨id,hid⟩:=gS (c:=iW 3730) (by kernel_rfl);have hf:=hf.only hl;rw[hid]at hf;refine(gQ hf).trans fun g1 w1 hd=>?_;obtain⟨ls,bR,rfl,f1,hs,F1⟩:=hd;refine(iw (b:=told ρ D_) (nm:=IG) (val:=yD ρ) (early:=fun _=>true) (late:=[]) (n:=17) (w0:=w) (by kernel_rfl) (by kernel_rfl) (by kernel_rfl) (by kernel_rfl) (by kernel_rfl) (by kernel_rfl) (by kernel_rfl) List.Pairwise.nil GI (KU OI OJ pi iH hmem) ls [] f1 (fun i hi=>by cases hi) hs ⟨_,F1,fun x hx=>hx,fun i hi=>by cases hi⟩).mono fun g2 w2 b_=>?_;obtain⟨cE,lv,h1,h2,h3,h4,h5⟩:=b_;exact⟨cE,lv,h1,h2,h3,h4,h5⟩
end
noncomputable abbrev SlH:List Item:=D8
noncomputable abbrev SlK:List Item:=D9
section
variable {w w0:World}{cs:List Frame}{fr:Frame}
theorem Ea{B n:Nat}{V:Value}(hlen:n≤4294967000)(hc:∀i,i<n+64->n≤i->w0.cell? ⟨B,i*3,none⟩=some (.string ⟨#[]⟩)∧w0.cell? ⟨B,i*3+1,none⟩=some eH∧w0.cell? ⟨B,i*3+2,none⟩=some (iV (9437185+i:Nat))):
  ∀(k i:Nat) {w:World} {fr:Frame},i+k=n+64->n≤i->bA w0 w->FA 34 53 SlH [] .normal [(0,V),(3,bS B 0 (n+64) (n+64)),(4,iV i)] fr->
  Goes (G fr cs) w fun g' w'=>∃fr',g'=G fr' cs∧bA w0 w'∧FA 34 53 SlK [] .normal [(0,V),(6,iV (0:Nat))] fr'
 |0,i,w,fr,hi,hni,fw,hf=>by refine(aiE.go (bO [(61,(n+64:Nat)),(62,(n+64:Nat)),(63,0),(10,i)] [(60,B)] [(0,V)]) hf rfl ⟨decide_eq_false (by show ¬((i:Int)<(((n+64:Nat):Nat):Int));omega),trivial⟩ trivial).mono fun g1 w1 hd=>?_;obtain⟨I,B1,bR,rfl,f1,F1,_⟩:=hd;exact⟨bR,rfl,fw.trans f1,F1⟩
 |k+1,i,w,fr,hi,hni,fw,hf=>by
  obtain⟨ρ,hρ⟩:∃ρ:Env,ρ=bO [(61,(n+64:Nat)),(62,(n+64:Nat)),(63,0),(10,i),(20,(9437185+i:Nat))] [(60,B)] [(0,V)]:=⟨_,rfl⟩;obtain⟨c0,c1,c2⟩:=hc i (by omega) hni;refine(aiC.go ρ hf (by rw[hρ];rfl) (bX (i:=10) (n:=61) (I:=i) (N:=n+64) (by rw[hρ];rfl) (by rw[hρ];rfl) (by omega)) ⟨by rw[hρ];show w.cell? ⟨B,0+i*3,none⟩=_;rw[aF];exact fw.cell c0,by rw[hρ];show w.cell? ⟨B,0+i*3+1,none⟩=_;rw[aF];exact fw.cell c1,by rw[hρ];show w.cell? ⟨B,0+i*3+2,none⟩=_;rw[aF];exact fw.cell c2,trivial⟩).trans fun g1 w1 hd=>?_;obtain⟨I,B1,bR,rfl,f1,F1,bl,_⟩:=hd;rw[hρ]at F1 bl;obtain⟨σ,jU⟩:∃ρ:Env,ρ=bO [(10,i),(20,(9437185+i:Nat))] [(65,B1 100)] [(0,V),(3,bS B 0 (n+64) (n+64))]:=⟨_,rfl⟩;refine(OM (ρ:=σ) (i:=i) (by rw[jU];rfl) (by rw[jU];rfl) (by omega) ⟨by rw[jU];exact decide_eq_true rfl,trivial⟩ ⟨by rw[jU];exact bG bl.1.2 (i:=0) rfl,by rw[jU];exact bG bl.1.2 (i:=1) rfl,by rw[jU];exact bG bl.1.2 (i:=2) rfl,trivial⟩ (by rw[jU];rfl) F1).trans fun g2 w2 b_=>?_;obtain⟨cE,AI,rfl,f2,F2,o7,kV⟩:=b_;obtain⟨u,q,eu⟩:=kV 16 (by decide) rfl;have eu:u=(FB:AV).ev σ:=eu;subst eu;have lY:=F2.sub (jm:=[(0,V),(3,bS B 0 (n+64) (n+64)),(4,iV i),(40,.bool false)]) fun x hx=>by
   simp only[ai,aA,or_false]at hx;rcases hx with rfl|rfl|rfl|rfl
   ·exact o7 _ (by rw[jU];exact aj ..)
   ·exact o7 _ (by rw[jU];exact af _ (aj ..))
   ·exact o7 _ (by rw[jU];exact af _ (af _ (aj ..)))
   ·exact q
  refine(aiD.go (bO [(10,i)] [] [(0,V),(3,bS B 0 (n+64) (n+64))]) lY rfl trivial trivial).trans fun g3 w3 cv=>?_;obtain⟨I3,B3,cF,rfl,f3,F3,_⟩:=cv;refine Ea hlen hc k (i+1) (by omega) (by omega) (fw.trans (f1.trans (f2.trans f3))) ?_;rw[<-inc (i:=i) (by omega)];exact F3
theorem Ec{B base:Nat}{L:List cx}{ps:List (cx×Value)}(hlen:L.length≤4294967000)(htr:∀x∈L,x.tree.length≤4294967000):
  ∀(k i:Nat) {w:World} {fr:Frame},i+k=L.length->tV w B L (L.length+64) ps->FA 34 53 SlK [] .normal [(0,bS B 0 L.length (L.length+64)),(6,iV i)] fr->
  Goes (G fr cs) w fun g' w'=>∃fr',g'=G fr' cs∧bA w w'∧de 34 fr' w' (.bool true)
 |0,i,w,fr,hi,H,hf=>by refine(aiI.go (bO [(51,L.length),(52,(L.length+64:Nat)),(53,0),(10,i)] [(50,B)] []) hf rfl ⟨decide_eq_false (by show ¬((i:Int)<((L.length:Nat):Int));omega),trivial⟩ trivial).trans fun g1 w1 hd=>?_;obtain⟨I,B1,bR,rfl,f1,F1,_⟩:=hd;refine(leave1 WS F1 rfl).mono fun g6 w6 dz=>?_;obtain⟨dK,rfl,rfl,hL⟩:=dz;exact⟨dK,rfl,f1,hL⟩
 |k+1,i,w,fr,hi,H,hf=>by obtain⟨x,hx⟩:∃x,L[i]?=some x:=⟨_,aa (by omega)⟩;obtain⟨p,hp⟩:∃p,ps[i]?=some p:=⟨_,aa (by rw[H.len];omega)⟩;obtain⟨rfl,hw⟩:=H.real i x p hx hp;have e:=lT hp;obtain⟨ρ,hρ⟩:∃ρ:Env,ρ=Go.Proofs.YtmobbajggkjpgaaGreat.SX.iS [(51,L.length),(52,(L.length+64:Nat)),(53,0),(10,i),(9,p.1.cj)] [(50,B)] [(7,p.2)] [(1,p.1.name)]:=⟨_,rfl⟩;refine(aiF.go ρ hf (by rw[hρ];rfl) (bX (i:=10) (n:=51) (I:=i) (N:=L.length) (by rw[hρ];rfl) (by rw[hρ];rfl) (by omega)) ⟨by rw[hρ];show w.cell? ⟨B,0+i*3,none⟩=_;rw[aF];exact cy.cS H.vec (e 0 (by decide)),by rw[hρ];show w.cell? ⟨B,0+i*3+1,none⟩=_;rw[aF];exact cy.cS H.vec (e 1 (by decide)),by rw[hρ];show w.cell? ⟨B,0+i*3+2,none⟩=_;rw[aF];exact cy.cS H.vec (e 2 (by decide)),trivial⟩).trans fun g1 w1 hd=>?_;obtain⟨I,B1,bR,rfl,f1,F1,_⟩:=hd;rw[hρ]at F1;refine(aiG.go (bO [] [] [(50,fK p.1 p.2)]) (Q:=fun v w'=>v=.bool true) F1 rfl fun w' f=>BU (hw.keep (f1.trans f)) (htr _ (az hx))).trans fun g2 w2 b_=>?_;obtain⟨cE,vv,rfl,f2,rfl,F2⟩:=b_;refine(aiH.go (bO [(10,i)] [] [(0,bS B 0 L.length (L.length+64))]) F2 rfl trivial trivial).trans fun g3 w3 cv=>?_;obtain⟨I3,B3,cF,rfl,f3,F3,_⟩:=cv;have f13:=f1.trans (f2.trans f3);refine(Ec (base:=base) hlen htr k (i+1) (by omega) (H.keep f13) (by rw[<-inc (i:=i) (by omega)];exact F3)).mono fun g4 w4 dh=>?_;obtain⟨eO,rfl,f4,hL⟩:=dh;exact⟨eO,rfl,f13.trans f4,hL⟩
theorem zG{base:Nat}{s:Value}{L:List cx}(h:kC w base s L)(hlen:L.length≤4294967000)(htr:∀x∈L,x.tree.length≤4294967000):dV 34 #[s] w fun v w'=>bA w w'∧v=.bool true:=by
 obtain⟨B,ps,_,rfl,H⟩:=h;refine cI fun cs=>?_;obtain⟨ρ,hρ⟩:∃ρ:Env,ρ=bO [(51,L.length),(52,(L.length+64:Nat)),(53,0)] [(50,B)] []:=⟨_,rfl⟩;refine(aiz.go ρ (cC WR rfl (bS B 0 L.length (L.length+64))) (by rw[hρ];rfl) trivial trivial).trans fun g1 w1 hd=>?_;obtain⟨I,B1,bR,rfl,f1,F1,_⟩:=hd;rw[hρ]at F1;refine(aiA.go (R:=fun y w'=>y=bS B 0 (L.length+64) (L.length+64)∧w'=w1) (bO [] [] []) F1 (by decide) rfl fun tm ir x' e1 e2=>?_).trans fun g2 w2 b_=>?_
 ·unfold execOp;simp only[e1,bH,av,aM];rw[ir 7 _ rfl,ir 10 (iV (iz .add .i64 (L.length:Int) 64)) rfl,lG hlen];exact tX (A:=B) (off:=0) (n:=L.length) (c:=L.length+64) (k:=L.length+64) (t:=22) (elem:=50) (size:=3) (by kernel_rfl) (by kernel_rfl) (ay _) (by omega) ⟨_,rfl,rfl,rfl⟩
 obtain⟨cE,y,rfl,⟨rfl,rfl⟩,F2⟩:=b_;refine(aiB.go (bO [(51,L.length),(52,(L.length+64:Nat)),(53,0)] [(50,B)] [(5,bS B 0 (L.length+64) (L.length+64))]) F2 rfl trivial trivial).trans fun g3 w3 cv=>?_;obtain⟨I3,B3,cF,rfl,f3,F3,_⟩:=cv;refine(Ea (w0:=w3) (n:=L.length) (V:=bS B 0 L.length (L.length+64)) hlen (fun i hi hni=>?_) 64 L.length (by omega) (ay _) (bA.refl _) F3).trans fun g4 w4 dh=>?_
 ·obtain⟨p,hp⟩:∃p,ps[i]?=some p:=⟨_,aa (by rw[H.len];omega)⟩;have e:=lT hp;obtain rfl:=H.mark i p (aQ (by omega)) hp;have hv:=bP H.vec (f1.trans f3);exact⟨cy.cS hv (e 0 (by decide)),cy.cS hv (e 1 (by decide)),cy.cS hv (e 2 (by decide))⟩
 ·obtain⟨eO,rfl,f4,F4⟩:=dh;have f14:=(f1.trans f3).trans f4;refine(Ec (base:=0) hlen htr L.length 0 (by omega) (H.keep f14) F4).mono fun g5 w5 eg=>?_;obtain⟨gn,rfl,f5,hL⟩:=eg;exact⟨gn,_,rfl,hL,f14.trans f5,rfl⟩
end
noncomputable def KV(l:Nat):Code:=pc (bD Tryz.f14) (pd l)
theorem W5:bT Tryz.prog 14 [.bF 0] .normal=.ok ⟨14,11,c_ 14 [.bF 0],[.code (bD Tryz.f14)],[],.run,.normal⟩:=by kernel_rfl
theorem W6:dL 14 11 2:=fun st=>by kernel_rfl
theorem aiJ:Pc 14 11 [.code (bD Tryz.f14)] ([(0,.agg [.bF 8,.bF 9])]) [] [] [] 9 [100] [1,4] [.inRegion (opsOf (KV 6)) [2,3,4,5,6,7,8],.code .ret] [bC 100,.bF 8] [(100,.cells [.bF 8,.bF 9] 25)]:={}
theorem aiK:dy 11 (opsOf (KV 6)) 2 [(4,.bF 4)] 34 [.bF 4] 5:={}
theorem aiL:Pc 14 11 [.inRegion (opsOf (KV 6)) [3,4,5,6,7,8],.code .ret] ([(1,bC 64),(5,TB)]) [] [(eD 64 1,.bF 9)] [] 3 [] [6,8] [.inRegion (opsOf (KV 6)) [6,7,8],.code .ret] [TB,.bF 9] []:={}
theorem aiM:dy 11 (opsOf (KV 6)) 6 [(6,TB),(8,.bF 8)] 35 [.bF 8] 9:={}
theorem aiN:Pc 14 11 [.inRegion (opsOf (KV 6)) [7,8],.code .ret] ([(6,TB),(9,TB)]) [] [] [] 3 [] [2] [.code .ret] [TB] []:={}
section
variable {w:World}
theorem zH{base:Nat}{ls os:Value}{F:iG}(hl:kC w base ls F.lets)(ho:kD w base os F.outs)(hlen:F.lets.length≤4294967000)(htr:∀x∈F.lets,x.tree.length≤4294967000)(Wj:F.outs.length≤4294967000):dV 14 #[.agg #[ls,os]] w fun v w'=>bA w w'∧v=.bool true:=by
 refine cI fun cs=>?_;refine(aiJ.go (bO [] [] [(8,ls),(9,os)]) (cC W5 rfl (.agg #[ls,os])) rfl trivial trivial).trans fun g1 w1 hd=>?_;obtain⟨I,B,bR,rfl,f1,F1,bl,_⟩:=hd;obtain⟨X,eX⟩:∃X,B 100=X:=⟨_,rfl⟩;have hX:(cy.obj 25 [ls,os]).at Tryz.prog w1 X:=by rw[<-eX];exact bl.1.2
 have fN:=F1.only (l:=[(1,bK X),(4,ls)]) (by rw[<-eX];rfl);refine(aiK.go (bO [] [] [(4,ls)]) (Q:=fun v w'=>v=.bool true) fN rfl fun w' f=>zG (hl.keep (f1.trans f)) hlen htr).trans fun g2 w2 b_=>?_;obtain⟨cE,vv,rfl,f2,rfl,F2⟩:=b_;refine(aiL.go (bO [] [(64,X)] [(9,os)]) F2 rfl trivial ⟨f2.cell (bG hX (i:=1) rfl),trivial⟩).trans fun g3 w3 cv=>?_;obtain⟨I3,B3,cF,rfl,f3,F3,_⟩:=cv;have f13:=f1.trans (f2.trans f3);refine(aiM.go (bO [] [] [(8,os)]) (Q:=fun v w'=>v=.bool true) F3 rfl fun w' f=>zE (ho.keep (f13.trans f)) Wj).trans fun g4 w4 dh=>?_;obtain⟨eO,vv,rfl,f4,rfl,F4⟩:=dh;refine(aiN.go (bO [] [] []) F4 rfl trivial trivial).trans fun g5 w5 eg=>?_;obtain⟨I5,B5,gn,rfl,f5,F5,_⟩:=eg;refine(leave1 W6 F5 rfl).mono fun g6 w6 dz=>?_;obtain⟨dK,rfl,rfl,hL⟩:=dz;exact⟨dK,_,rfl,hL,f13.trans (f4.trans f5),rfl⟩
end
noncomputable def KW(l:Nat):Code:=pc (bD Tryz.f30) (pd l)
theorem W7:bT Tryz.prog 30 [.bF 0,.bF 1] .normal=.ok ⟨30,25,c_ 30 [.bF 0,.bF 1],[.code (bD Tryz.f30)],[],.run,.normal⟩:=by kernel_rfl
theorem GJ:dL 30 25 4:=fun st=>by kernel_rfl
noncomputable abbrev yE:List Item:=[.code (KW 52),.inLoop (KW 52),.inBlock 0,.code (KW 7)]
theorem aiO(z:Bool):Pc 30 25 [.code (bD Tryz.f30)] ([(0,cU z 50 53 51 52),(1,i64 (v 30))]) [] [] [] 11 [] [0,1,5] yE [cU z 50 53 51 52,i64 (v 30),i64 (.lit 0)] []:=by cases z<;>exact{}
noncomputable abbrev ON:List (Nat×AV):=[(0,sA 50 53 51 52),(1,i64 (v 30)),(5,i64 (v 10))]
theorem aiP:Pc 30 25 yE (ON) (((.cmp .lss (v 10) (v 30)),true)::(fo 10 51++TL)) DN [] 37 [] [0,1,5] yE [sA 50 53 51 52,i64 (v 30),i64 (.op .add .i64 (v 10) (.lit 1))] []:={}
noncomputable abbrev T4:List Item:=[.code .ret,.inBlock 1,.code (KW 211),.inLoop (KW 52),.inBlock 0,.code (KW 7)]
theorem aiQ:Pc 30 25 yE (ON) (((.cmp .lss (v 10) (v 30)),true)::(fo 10 51++[((.cmp .lss (v 11) (.lit 1)),true)])) DN [] 33 [] [4] T4 [FB] []:={}
theorem aiR:Pc 30 25 yE (ON) (((.cmp .lss (v 10) (v 30)),true)::(fo 10 51++TK)) DN [] 33 [] [4] T4 [FB] []:={}
theorem aiS(z:Bool):Pc 30 25 yE ([(0,cU z 50 53 51 52),(1,i64 (v 30)),(5,i64 (v 10))]) [((.cmp .lss (v 10) (v 30)),false)] [] [] 13 [] [4] [.code .ret] [TB] []:=by cases z<;>exact{}
noncomputable abbrev KnH:List Item:=yE
section
variable {w w0:World}{cs:List Frame}
theorem II{z:Bool}{A o c n:Nat}{E:List (Int×Int)}(hz:z=true->E=[])(hel:∀i e,E[i]?=some e->w0.cell? ⟨A,o+i*2,none⟩=some (cY e.1)∧w0.cell? ⟨A,o+i*2+1,none⟩=some (iV e.2))(hlen:E.length≤4294967000)(hn:n≤E.length):
  ∀(k i:Nat) {w:World} {fr:Frame},i+k=n->bA w0 w->(E.take i).any kn=false->FA 30 25 KnH [] .normal [(0,ew z A o E.length c),(1,iV n),(5,iV i)] fr->
  Goes (G fr cs) w fun g' w'=>∃fr',g'=G fr' cs∧bA w0 w'∧de 30 fr' w' (.bool (!(E.take n).any kn))
 |0,i,w,fr,hi,fw,hb,hf=>by
  obtain rfl:i=n:=by omega
  obtain⟨ρ,hρ⟩:∃ρ:Env,ρ=bO [(51,E.length),(52,c),(53,o),(30,i),(10,i)] [(50,A)] []:=⟨_,rfl⟩;refine((aiS z).go ρ hf (by rw[hρ];cases z<;>rfl) ⟨by rw[hρ];exact decide_eq_false (by show ¬((i:Int)<(i:Int));omega),trivial⟩ trivial).trans fun g1 w1 hd=>?_;obtain⟨I,B,bR,rfl,f1,F1,_⟩:=hd;refine(leave1 GJ F1 rfl).mono fun g6 w6 dz=>?_;obtain⟨dK,rfl,rfl,hL⟩:=dz;rw[hb];exact⟨dK,rfl,fw.trans f1,hL⟩
 |k+1,i,w,fr,hi,fw,hb,hf=>by
  have hlt:i<E.length:=by omega
  obtain⟨e,he⟩:∃e,E[i]?=some e:=⟨_,aa hlt⟩;cases z with
  |true=>rw[hz rfl]at hlt;simp at hlt
  |false=>
  obtain⟨c1,c2⟩:=hel i e he;obtain⟨ρ,hρ⟩:∃ρ:Env,ρ=bO [(51,E.length),(52,c),(53,o),(30,n),(10,i),(11,e.1),(12,e.2)] [(50,A)] []:=⟨_,rfl⟩;have b1:(BE.cmp .lss (v 10) (v 30)).ev ρ=true:=by rw[hρ];exact decide_eq_true (by show(i:Int)<(n:Int);omega)
  have b2:=bX (ρ:=ρ) (i:=10) (n:=51) (I:=i) (N:=E.length) (by rw[hρ];rfl) (by rw[hρ];rfl) hlt;have mm:cq ρ w DN:=⟨by rw[hρ];exact fw.cell c1,by rw[hρ];exact fw.cell c2,trivial⟩;have bad:kn e=true->(E.take n).any kn=true:=fun h=>List.any_eq_true.2 ⟨e,az (i:=i) (by rw[List.getElem?_take,if_pos (by omega)];exact he),h⟩;by_cases h1:e.1<1
  ·refine(aiQ.go ρ hf (by rw[hρ];rfl) ⟨b1,b2.1,b2.2.1,b2.2.2.1,b2.2.2.2.1,by rw[hρ];exact decide_eq_true h1,trivial⟩ mm).trans fun g1 w1 hd=>?_;obtain⟨I,B,bR,rfl,f1,F1,_⟩:=hd;refine(leave1 GJ F1 rfl).mono fun g6 w6 dz=>?_;obtain⟨dK,rfl,rfl,hL⟩:=dz;rw[bad (by unfold kn;rw[decide_eq_true h1];rfl)];exact⟨dK,rfl,fw.trans f1,hL⟩
  by_cases h2:e.1>4
  ·refine(aiR.go ρ hf (by rw[hρ];rfl) ⟨b1,b2.1,b2.2.1,b2.2.2.1,b2.2.2.2.1,by rw[hρ];exact decide_eq_false h1,by rw[hρ];exact decide_eq_true h2,trivial⟩ mm).trans fun g1 w1 hd=>?_;obtain⟨I,B,bR,rfl,f1,F1,_⟩:=hd;refine(leave1 GJ F1 rfl).mono fun g6 w6 dz=>?_;obtain⟨dK,rfl,rfl,hL⟩:=dz;rw[bad (by unfold kn;rw[decide_eq_true h2];simp)];exact⟨dK,rfl,fw.trans f1,hL⟩
  ·refine(aiP.go ρ hf (by rw[hρ];rfl) ⟨b1,b2.1,b2.2.1,b2.2.2.1,b2.2.2.2.1,by rw[hρ];exact decide_eq_false h1,by rw[hρ];exact decide_eq_false h2,trivial⟩ mm).trans fun g1 w1 hd=>?_;obtain⟨I,B,bR,rfl,f1,F1,_⟩:=hd;rw[hρ]at F1;refine II (z:=false) (c:=c) (fun h=>by cases h) hel hlen hn k (i+1) (by omega) (fw.trans f1) ?_ (by rw[<-inc (i:=i) (by omega)];exact F1);rw[List.take_add_one,he,Option.toList_some,List.any_append,hb];unfold kn;simp[h1,h2]
theorem KX{s:Value}{E:List (Int×Int)}{n:Nat}(h:ei w s E)(hn:n≤E.length)(hlen:E.length≤4294967000):dV 30 #[s,iV n] w fun v w'=>bA w w'∧v=.bool (!(E.take n).any kn):=by
 obtain⟨z,A,o,c,rfl,hz,oU,hel⟩:=h.ex;refine cI fun cs=>?_;obtain⟨ρ,hρ⟩:∃ρ:Env,ρ=bO [(51,E.length),(52,c),(53,o),(30,n)] [(50,A)] []:=⟨_,rfl⟩;refine((aiO z).go ρ (dU W7 rfl (ew z A o E.length c) (iV n)) (by rw[hρ];cases z<;>rfl) trivial trivial).trans fun g1 w1 hd=>?_;obtain⟨I,B,bR,rfl,f1,F1,_⟩:=hd;have fN:FA 30 25 KnH [] .normal [(0,ew z A o E.length c),(1,iV n),(5,iV (0:Nat))] bR:=by rw[hρ]at F1;cases z<;>exact F1
 refine(II (w0:=w) hz hel hlen hn n 0 (by omega) f1 rfl fN).mono fun g2 w2 b_=>?_;obtain⟨cE,rfl,f2,hL⟩:=b_;exact⟨cE,_,rfl,hL,f2,rfl⟩
end
noncomputable def auD(l:Nat):Code:=pc (bD Tryz.f38) (pd l)
theorem OP:bT Tryz.prog 38 [.bF 0] .normal=.ok ⟨38,9,c_ 38 [.bF 0],[.code (bD Tryz.f38)],[],.run,.normal⟩:=by kernel_rfl
theorem OQ:dL 38 9 2:=fun st=>by kernel_rfl
noncomputable abbrev Ed:List (Nat×AV):=[(0,.agg [ss 1,sA 70 73 71 72,i64 (v 4)])]
theorem aiT:Pc 38 9 [.code (bD Tryz.f38)] (Ed) [((.cmp .lss (.lit 0) (.tn (v 71))),true),((.cmp .geq (.lit 0) (.tn (v 71))),false),((.cmp .eql (v 1) (.lit 17)),true)] [(⟨(.dyn 70),(v 73)⟩,i8 (v 1)),(⟨(.dyn 70),(.plus (.tn (v 73)) (.lit 0))⟩,i8 (v 1))] [] 15 [] [2] [.code .ret] [TB] []:={}
theorem aiU:Pc 38 9 [.code (bD Tryz.f38)] (Ed) [((.cmp .lss (.lit 0) (.tn (v 71))),true),((.cmp .geq (.lit 0) (.tn (v 71))),false),((.cmp .eql (v 1) (.lit 17)),false)] [(⟨(.dyn 70),(v 73)⟩,i8 (v 1)),(⟨(.dyn 70),(.plus (.tn (v 73)) (.lit 0))⟩,i8 (v 1))] [] 15 [] [2] [.code .ret] [FB] []:={}
noncomputable def auE(l:Nat):Code:=pc (bD Tryz.f39) (pd l)
theorem OR:bT Tryz.prog 39 [.bF 0] .normal=.ok ⟨39,9,c_ 39 [.bF 0],[.code (bD Tryz.f39)],[],.run,.normal⟩:=by kernel_rfl
theorem OS:dL 39 9 2:=fun st=>by kernel_rfl
theorem aiV:Pc 39 9 [.code (bD Tryz.f39)] (Ed) [((.cmp .lss (.lit 0) (.tn (v 71))),true),((.cmp .geq (.lit 0) (.tn (v 71))),false),((.cmp .eql (v 1) (.lit 18)),true)] [(⟨(.dyn 70),(v 73)⟩,i8 (v 1)),(⟨(.dyn 70),(.plus (.tn (v 73)) (.lit 0))⟩,i8 (v 1))] [] 15 [] [2] [.code .ret] [TB] []:={}
theorem aiW:Pc 39 9 [.code (bD Tryz.f39)] (Ed) [((.cmp .lss (.lit 0) (.tn (v 71))),true),((.cmp .geq (.lit 0) (.tn (v 71))),false),((.cmp .eql (v 1) (.lit 18)),false)] [(⟨(.dyn 70),(v 73)⟩,i8 (v 1)),(⟨(.dyn 70),(.plus (.tn (v 73)) (.lit 0))⟩,i8 (v 1))] [] 15 [] [2] [.code .ret] [FB] []:={}
section
variable {w:World}
theorem OT{x:cx}{ts:Value}(h:cK w ts x.tree)(hne:x.tree≠[]):dV 38 #[fK x ts] w fun v w'=>bA w w'∧v=.bool (decide (cQ x=17)):=by
 rcases h.ex with⟨_,he⟩|⟨A,o,c,rfl,hc,hel⟩
 ·exact(hne he).elim
 obtain⟨n,r,hx⟩:=List.exists_cons_of_ne_nil hne;have h0:=hel 0 n (by rw[hx];rfl);have hr:cQ x=n.op:=by unfold cQ;rw[hx];rfl
 have hl:0<x.tree.length:=by rw[hx];simp
 obtain⟨ρ,hρ⟩:∃ρ:Env,ρ=Go.Proofs.YtmobbajggkjpgaaGreat.SX.iS [(71,x.tree.length),(72,c),(73,o),(4,x.cj),(1,n.op)] [(70,A)] [] [(1,x.name)]:=⟨_,rfl⟩;have b1:(BE.cmp .lss (.lit 0) (.tn (v 71))).ev ρ=true:=by rw[hρ];exact decide_eq_true (by show(0:Int)<((x.tree.length:Nat):Int);omega)
 have b2:(BE.cmp .geq (.lit 0) (.tn (v 71))).ev ρ=false:=by rw[hρ];exact decide_eq_false (by show ¬((0:Int)≥((x.tree.length:Nat):Int));omega)
 have mm:cq ρ w [(⟨(.dyn 70),(v 73)⟩,i8 (v 1)),(⟨(.dyn 70),(.plus (.tn (v 73)) (.lit 0))⟩,i8 (v 1))]:=⟨by rw[hρ];have:=h0.c0;rw[Nat.zero_mul,Nat.add_zero]at this;exact this,by rw[hρ];have:=h0.c0;rw[Nat.zero_mul]at this;exact this,trivial⟩;rw[hr];by_cases hk:n.op=17
 ·rw[decide_eq_true hk];exact(aiT.iY OQ ρ (cC OP rfl (fK x (bS A o x.tree.length c))) (by rw[hρ];rfl) ⟨b1,b2,by rw[hρ];exact decide_eq_true hk,trivial⟩ mm).mono fun v w' ⟨f,I,B,e,_⟩=>⟨f,e⟩
 ·rw[decide_eq_false hk];exact(aiU.iY OQ ρ (cC OP rfl (fK x (bS A o x.tree.length c))) (by rw[hρ];rfl) ⟨b1,b2,by rw[hρ];exact decide_eq_false hk,trivial⟩ mm).mono fun v w' ⟨f,I,B,e,_⟩=>⟨f,e⟩
theorem GK{x:cx}{ts:Value}(h:cK w ts x.tree)(hne:x.tree≠[]):dV 39 #[fK x ts] w fun v w'=>bA w w'∧v=.bool (decide (cQ x=18)):=by
 rcases h.ex with⟨_,he⟩|⟨A,o,c,rfl,hc,hel⟩
 ·exact(hne he).elim
 obtain⟨n,r,hx⟩:=List.exists_cons_of_ne_nil hne;have h0:=hel 0 n (by rw[hx];rfl);have hr:cQ x=n.op:=by unfold cQ;rw[hx];rfl
 have hl:0<x.tree.length:=by rw[hx];simp
 obtain⟨ρ,hρ⟩:∃ρ:Env,ρ=Go.Proofs.YtmobbajggkjpgaaGreat.SX.iS [(71,x.tree.length),(72,c),(73,o),(4,x.cj),(1,n.op)] [(70,A)] [] [(1,x.name)]:=⟨_,rfl⟩;have b1:(BE.cmp .lss (.lit 0) (.tn (v 71))).ev ρ=true:=by rw[hρ];exact decide_eq_true (by show(0:Int)<((x.tree.length:Nat):Int);omega)
 have b2:(BE.cmp .geq (.lit 0) (.tn (v 71))).ev ρ=false:=by rw[hρ];exact decide_eq_false (by show ¬((0:Int)≥((x.tree.length:Nat):Int));omega)
 have mm:cq ρ w [(⟨(.dyn 70),(v 73)⟩,i8 (v 1)),(⟨(.dyn 70),(.plus (.tn (v 73)) (.lit 0))⟩,i8 (v 1))]:=⟨by rw[hρ];have:=h0.c0;rw[Nat.zero_mul,Nat.add_zero]at this;exact this,by rw[hρ];have:=h0.c0;rw[Nat.zero_mul]at this;exact this,trivial⟩;rw[hr];by_cases hk:n.op=18
 ·rw[decide_eq_true hk];exact(aiV.iY OS ρ (cC OR rfl (fK x (bS A o x.tree.length c))) (by rw[hρ];rfl) ⟨b1,b2,by rw[hρ];exact decide_eq_true hk,trivial⟩ mm).mono fun v w' ⟨f,I,B,e,_⟩=>⟨f,e⟩
 ·rw[decide_eq_false hk];exact(aiW.iY OS ρ (cC OR rfl (fK x (bS A o x.tree.length c))) (by rw[hρ];rfl) ⟨b1,b2,by rw[hρ];exact decide_eq_false hk,trivial⟩ mm).mono fun v w' ⟨f,I,B,e,_⟩=>⟨f,e⟩
end
def qg(tot:Nat):Nat->List Nd->Option (List Nd)
 |0,l=>some l
 |_+1,[]=>none
 |k+1,n::r=>if n.kids<0∨n.kids>tot then none else qg tot (k+n.kids.toNat) r
theorem o9.parts:∀{a b:List T},o9 (a++b)->o9 a∧o9 b
 |[],b,h=>⟨trivial,h⟩
 |t::a,b,h=>⟨⟨h.1,(o9.parts h.2).1⟩,(o9.parts h.2).2⟩
theorem yF{tot:Nat}:∀(l:List Nd) (k:Nat) {r:List Nd},qg tot k l=some r->∃ts:List T,ts.length=k∧o9 ts∧l=bY ts++r
 |l,0,r,h=>by unfold qg at h;exact⟨[],rfl,trivial,au h⟩
 |[],k+1,r,h=>by unfold qg at h;cases h
 |n::l,k+1,r,h=>by
  unfold qg at h;split at h
  ·cases h
  ·rename_i hn;obtain⟨ts,h1,h2,h3⟩:=yF l _ h;have hw:=o9.parts (a:=ts.take n.kids.toNat) (b:=ts.drop n.kids.toNat) (by rw[List.take_append_drop];exact h2);refine⟨.nd n (ts.take n.kids.toNat)::ts.drop n.kids.toNat,?_,⟨⟨?_,hw.1⟩,hw.2⟩,?_⟩
   ·rw[aC,br];omega
   ·rw[List.length_take];omega
   ·rw[h3];have e:=jj (ts.take n.kids.toNat) (ts.drop n.kids.toNat);rw[List.take_append_drop]at e;rw[e];simp[bY,flat]
theorem wz{tot:Nat}:∀(m:Nat) (ts:List T) (rest:List Nd),(bY ts).length=m->o9 ts->(bY ts).length≤tot->qg tot ts.length (bY ts++rest)=some rest
 |m,[],rest,hm,hw,ht=>by simp[qg,bY]
 |0,t::ts,rest,hm,hw,ht=>by have:=tK t;simp only[bY,an]at hm;omega
 |m+1,.nd n ks::ts,rest,hm,hw,ht=>by
  have hk:n.kids=ks.length:=hw.1.1;have e:bY (.nd n ks::ts)++rest=n::(bY (ks++ts)++rest):=by rw[jj];simp[bY,flat]
  have el:(bY (ks++ts)).length=m:=by have:=congrArg aR e;simp only[an,aC]at this hm;omega
  have hfl:=f_ ks;have hfa:(bY (ks++ts)).length=(bY ks).length+(bY ts).length:=by rw[jj,an]
  rw[e];show qg tot (ts.length+1) (n::(bY (ks++ts)++rest))=some rest;unfold qg;rw[if_neg (by omega),show ts.length+n.kids.toNat=(ks++ts).length by rw[an];omega];exact wz m (ks++ts) rest el (o9.app hw.1.2 hw.2) (by omega)
def bV(op:Int):Int:=
 if op=1∨op=2 then 0
 else if op=3∨op=13∨op=14∨op=15∨op=16∨op=18 then 1
 else if op=4∨op=5∨op=6 then 2
 else if op=12 then 3
 else if op=10∨op=11∨op=17 then-1
 else-2
theorem oM(op:Int)(len:Nat):ji op len=if bV op=-2 then none else some (if bV op=-1 then 1 else bV op,if bV op=-1 then(len:Int)else bV op,decide (bV op=-1)||decide (op=18)):=by
 by_cases h1:op=1
 ·subst h1;rfl
 by_cases h2:op=2
 ·subst h2;rfl
 by_cases h3:op=3
 ·subst h3;rfl
 by_cases h4:op=4
 ·subst h4;rfl
 by_cases h5:op=5
 ·subst h5;rfl
 by_cases h6:op=6
 ·subst h6;rfl
 by_cases h10:op=10
 ·subst h10;rfl
 by_cases h11:op=11
 ·subst h11;rfl
 by_cases h12:op=12
 ·subst h12;rfl
 by_cases Gs:op=13
 ·subst Gs;rfl
 by_cases Kx:op=14
 ·subst Kx;rfl
 by_cases NZ:op=15
 ·subst NZ;rfl
 by_cases Rj:op=16
 ·subst Rj;rfl
 by_cases sg:op=17
 ·subst sg;rfl
 by_cases lQ:op=18
 ·subst lQ;rfl
 ·have:bV op=-2:=by simp[bV, *]
  rw[this,if_pos rfl];simp[ji, *]
theorem tY(op:Int):-2≤bV op∧bV op≤3:=by
 unfold bV
 repeat' split
 all_goals omega
def vX(n:Nd):Bool:=!(decide (bV n.op=-2)||(decide (bV n.op≥0)&&!decide (n.kids=bV n.op)||decide (bV n.op=-1)&&decide (n.kids<1))||decide (n.cj<0))&&!(decide (n.op=1)&&decide (n.n<0)||!decide (n.op=1)&&!decide (n.op=2)&&!decide (n.n=0))
def m5(root:Bool)(s:T):Bool:=vX s.n&&(root||!(decide (s.n.op=17)||decide (s.n.op=18)))&&(!(decide (bV s.n.op=-1)||decide (s.n.op=18))||s.ks.all fun k=>decide (k.n.op=2))
mutual
def kP:T->List T
 |.nd n ks=>.nd n ks::jB ks
def jB:List T->List T
 |[]=>[]
 |k::ks=>kP k++jB ks
end
def tZ:Nat->List T->Bool
 |_,[]=>true
 |i,s::r=>m5 (decide (i=0)) s&&tZ (i+1) r
theorem Ee:∀(l:List T) (i:Nat),0<i->tZ i l=l.all (m5 false)
 |[],i,h=>rfl
 |s::r,i,h=>by unfold tZ;rw[List.all_cons,decide_eq_false (by omega:¬i=0),Ee r (i+1) (by omega)]
theorem wH(n:Nd)(ks:List T):tZ 0 (kP (.nd n ks))=(m5 true (.nd n ks)&&(jB ks).all (m5 false)):=by unfold kP tZ;rw[Ee _ _ (by omega)];rfl
theorem Ef{n:Nd}{root:Bool}{lo hi:Int}{nm:Bool}{len:Nat}(h:ji n.op len=some (lo,hi,nm))(hk:n.kids≤len):oX n root lo hi=!(vX n&&(root||!(decide (n.op=17)||decide (n.op=18)))):=by
 rw[oM]at h;split at h
 ·cases h
 rename_i h2;have hr:=tY n.op;simp only[Option.some.injEq,Prod.mk.injEq]at h;obtain⟨hlo,hhi,_⟩:=h;have e1:(decide (n.kids<lo)||decide (n.kids>hi))=(decide (bV n.op≥0)&&!decide (n.kids=bV n.op)||decide (bV n.op=-1)&&decide (n.kids<1)):=by
  by_cases hm:bV n.op=-1
  ·rw[if_pos hm]at hlo hhi;subst hlo hhi;rw[decide_eq_true hm,decide_eq_false (by omega:¬n.kids>len),decide_eq_false (by omega:¬bV n.op≥0)];simp
  ·rw[if_neg hm]at hlo hhi;subst hlo hhi;rw[decide_eq_false hm,decide_eq_true (by omega:bV n.op≥0)];by_cases he:n.kids=bV n.op
   ·rw[decide_eq_true he,decide_eq_false (by omega),decide_eq_false (by omega)];rfl
   ·rw[decide_eq_false he];by_cases hl:n.kids<bV n.op
    ·rw[decide_eq_true hl];rfl
    ·rw[decide_eq_false hl,decide_eq_true (by omega:n.kids>bV n.op)];rfl
 unfold oX vX;rw[e1,decide_eq_false h2];have e2:(!(decide (n.n=0)||decide (n.op=2)||decide (n.op=1)&&decide (n.n>0)))=(decide (n.op=1)&&decide (n.n<0)||!decide (n.op=1)&&!decide (n.op=2)&&!decide (n.n=0)):=by
  by_cases a:n.op=1
  ·have b:¬n.op=2:=by omega
   rw[decide_eq_true a,decide_eq_false b];by_cases c:n.n=0
   ·rw[decide_eq_true c,decide_eq_false (by omega),decide_eq_false (by omega)];rfl
   ·rw[decide_eq_false c];by_cases d:n.n<0
    ·rw[decide_eq_true d,decide_eq_false (by omega)];rfl
    ·rw[decide_eq_false d,decide_eq_true (by omega:n.n>0)];rfl
  ·rw[decide_eq_false a];cases decide (n.op=2)<;>cases decide (n.n=0)<;>rfl
 rw[e2];generalize(decide (bV n.op≥0)&&!decide (n.kids=bV n.op)||decide (bV n.op=-1)&&decide (n.kids<1))=A;generalize(decide (n.op=1)&&decide (n.n<0)||!decide (n.op=1)&&!decide (n.op=2)&&!decide (n.n=0))=C;generalize(decide (n.op=17)||decide (n.op=18))=D;generalize decide (n.cj<0)=E;cases A<;>cases C<;>cases D<;>cases E<;>cases root<;>rfl
theorem t_{g:List Nd->Option (T×List Nd)}{names:Bool}:∀(k:Nat) (l:List Nd) (ts:List T) (r:List Nd),eP g names k l=some (ts,r)->names=true->ts.all (fun k=>decide (k.n.op=2))=true
 |0,l,ts,r,h,hn=>by cases h;rfl
 |k+1,l,ts,r,h,hn=>by
  unfold eP at h;split at h
  ·cases h
  ·rename_i t r' e;split at h
   ·cases h
   ·rename_i hb;split at h
    ·cases h
    ·rename_i ts' r'' e2;cases h;rw[List.all_cons,t_ k _ _ _ e2 hn];rw[hn]at hb;simpa using hb
theorem AQ{p:T->Bool}:∀{ts:List T},(∀t∈ts,(kP t).all p=true)->(jB ts).all p=true
 |[],_=>rfl
 |t::ts,h=>by rw[jB,List.all_append,h t (aj ..),AQ fun t' ht=>h t' (af _ ht)];rfl
theorem mP:∀(f:Nat) (l:List Nd) (root:Bool) (t:T) (r:List Nd),dJ f l root=some (t,r)->m5 root t=true∧(jB t.ks).all (m5 false)=true
 |0,l,root,t,r,h=>by cases h
 |f+1,[],root,t,r,h=>by cases h
 |f+1,n::l,root,t,r,h=>by
  have hall:=h;unfold dJ at h;split at h
  ·cases h
  ·rename_i lo hi nm e0;split at h
   ·cases h
   ·rename_i hb;split at h
    ·cases h
    ·rename_i ts r' e;cases h;obtain⟨hlen,hk⟩:=qb (P:=fun t=>m5 false t=true∧(jB t.ks).all (m5 false)=true) (fun l t r h=>mP f l false t r h) _ _ _ _ e;have hb':oX n root lo hi=false:=by simpa using hb
     have hfl:=nJ (fun l t r h=>gi f l false t r h) _ _ _ _ e;have Qs:=f_ ts;have hle:n.kids≤(l.length+1:Nat):=by have:=congrArg aR hfl;rw[an]at this;omega
     have hok:=Ef (root:=root) e0 hle;rw[hb']at hok;have OU:(vX n&&(root||!(decide (n.op=17)||decide (n.op=18))))=true:=by
      generalize(vX n&&(root||!(decide (n.op=17)||decide (n.op=18))))=x at hok;cases x
      ·cases hok
      ·rfl
     have hnm:nm=(decide (bV n.op=-1)||decide (n.op=18)):=by
      rw[oM]at e0;split at e0
      ·cases e0
      ·simp only[Option.some.injEq,Prod.mk.injEq]at e0;exact e0.2.2.symm
     refine⟨?_,AQ fun t ht=>?_⟩
     ·unfold m5;rw[show(T.nd n ts).n=n from rfl,show(T.nd n ts).ks=ts from rfl,OU,Bool.true_and,<-hnm];cases nm with
      |false=>rfl
      |true=>exact t_ _ _ _ _ e rfl
     ·obtain⟨a,b⟩:=hk t ht;cases t with
      |nd m ks=>rw[kP,List.all_cons,a];exact b
theorem om{n:Nd}(h:vX n=true):bV n.op≠-2∧(0≤bV n.op->n.kids=bV n.op):=by
 unfold vX at h;constructor
 ·intro e;rw[decide_eq_true e]at h;simp at h
 ·intro e;rw[decide_eq_true e]at h;by_cases hk:n.kids=bV n.op
  ·exact hk
  ·rw[decide_eq_false hk]at h;simp at h
mutual
theorem Eg:∀(t:T) (root:Bool) (f:Nat) (rest:List Nd),vk t->m5 root t=true->(jB t.ks).all (m5 false)=true->(flat t).length<f->dJ f (flat t++rest) root=some (t,rest)
 |.nd n ks,root,0,rest,hw,h1,h2,hf=>by omega
 |.nd n ks,root,f+1,rest,hw,h1,h2,hf=>by have hk:n.kids=ks.length:=hw.1;have hfl:=f_ ks;have Cf:=h1;unfold m5 at h1;simp only[aq]at h1;obtain⟨⟨ho,hr⟩,hn⟩:=h1;have ho:vX n=true:=ho;have hr:(root||!(decide (n.op=17)||decide (n.op=18)))=true:=hr;have hn:(!(decide (bV n.op=-1)||decide (n.op=18))||ks.all fun k=>decide (k.n.op=2))=true:=hn;obtain⟨o1,o2⟩:=om ho;have e0:=oM n.op ((bY ks++rest).length+1);rw[if_neg o1]at e0;rw[flat,List.cons_append];unfold dJ;rw[e0];dsimp only;have hb:=Ef (root:=root) e0 (by rw[hk,an];omega);rw[ho,hr]at hb;rw[hb,if_neg (by decide)];have:=IJ ks f rest (names:=decide (bV n.op=-1)||decide (n.op=18)) hw.2 h2 (fun e=>by rw[e]at hn;exact hn) (by rw[flat,aC]at hf;omega);rw[hk,Int.toNat_natCast,this]
theorem IJ:∀(ks:List T) (f:Nat) (rest:List Nd) {names:Bool},o9 ks->(jB ks).all (m5 false)=true->(names=true->ks.all (fun k=>decide (k.n.op=2))=true)->(bY ks).length<f->eP (fun r=>dJ f r false) names ks.length (bY ks++rest)=some (ks,rest)
 |[],f,rest,names,hw,h2,hn,hf=>rfl
 |k::ks,f,rest,names,hw,h2,hn,hf=>by
  rw[jB,List.all_append]at h2;simp only[aq]at h2;rw[bY,an]at hf;have hs:m5 false k=true∧(jB k.ks).all (m5 false)=true:=by
   have:=h2.1;cases k with
   |nd m l=>rw[kP,List.all_cons,aq]at this;exact this
  have g:=Eg k false f (bY ks++rest) hw.1 hs.1 hs.2 (by omega);rw[aC];unfold eP;rw[bY,a_,g];dsimp only;have hop:names=true->k.n.op=2∧ks.all (fun k=>decide (k.n.op=2))=true:=fun e=>by have:=hn e;rw[List.all_cons,aq]at this;exact⟨of_decide_eq_true this.1,this.2⟩
  rw[if_neg (by
   cases names with
   |false=>simp
   |true=>simp[(hop rfl).1])]
  have r:=IJ ks f rest (names:=names) hw.2 h2.2 (fun e=>(hop e).2) (by omega);rw[r]
end
def iy(l:List Nd):Bool:=match dJ (l.length+1) l true with
 |some (_,[])=>true
 |_=>false
theorem KY{t:T}(hw:vk t):iy (flat t)=tZ 0 (kP t):=by
 cases t with
 |nd n ks=>
 rw[wH];cases e:(m5 true (.nd n ks)&&(jB ks).all (m5 false))with
 |true=>rw[aq]at e;have:=Eg (.nd n ks) true ((flat (.nd n ks)).length+1) [] hw e.1 e.2 (by omega);rw[aV]at this;unfold iy;rw[this]
 |false=>
  unfold iy;split
  ·rename_i t' h;have hg:=mP _ _ _ _ _ h;have hfl:=gi _ _ _ _ _ h;have hw':=(jS _ _ _ _ _ h).1;rw[aV]at hfl;have b1:=wz (tot:=(flat (.nd n ks)).length) _ [.nd n ks] [] rfl ⟨hw,trivial⟩ (by simp[bY]);have hu:∀(m:Nat) (a b:List T),(bY a).length=m->o9 a->o9 b->a.length=b.length->bY a=bY b->a=b:=fun m=>by
    induction m with
    |zero=>
     intro a b hm ha hb hl he;cases a with
     |nil=>exact(bg.1 hl.symm).symm
     |cons t ts=>have:=tK t;simp only[bY,an]at hm;omega
    |succ m ih=>
     intro a b hm ha hb hl he;cases a with
     |nil=>exact(bg.1 hl.symm).symm
     |cons t ts=>
      cases b with
      |nil=>cases hl
      |cons t' ts'=>
       cases t with
       |nd x xs=>
        cases t' with
        |nd y ys=>
         simp only[bY,flat,List.cons_append,List.cons.injEq]at he;obtain⟨rfl,he⟩:=he;have hx:x.kids=xs.length:=ha.1.1;have hy:x.kids=ys.length:=hb.1.1;have hxy:xs.length=ys.length:=by omega
         have:=ih (xs++ts) (ys++ts') (by
          rw[jj,an];simp only[bY,flat,an,aC]at hm;omega) (o9.app ha.1.2 ha.2) (o9.app hb.1.2 hb.2) (by
          simp only[aC]at hl;simp only[an];omega) (by rw[jj,jj];exact he)
         obtain⟨h1,h2⟩:=List.append_inj this hxy;rw[h1,h2]
   have:=hu _ [.nd n ks] [t'] rfl ⟨hw,trivial⟩ ⟨hw',trivial⟩ rfl (by simpa[bY] using hfl);obtain rfl:T.nd n ks=t':=by simpa using this
   rw[hg.1]at e;have e2:(jB ks).all (m5 false)=true:=hg.2;rw[e2]at e;cases e
  ·rfl
theorem GL{l:List Nd}(h:qg l.length 1 l≠some []):iy l=false:=by
 unfold iy;split
 ·rename_i t e;exfalso;have hfl:=gi _ _ _ _ _ e;rw[aV]at hfl;have:=wz (tot:=l.length) _ [t] [] rfl ⟨(jS _ _ _ _ _ e).1,trivial⟩ (by simp[bY,<-hfl]);apply h;simpa[bY,<-hfl] using this
 ·rfl
theorem Eh{l:List Nd}(h:qg l.length 1 l=some []):∃t,vk t∧l=flat t:=by
 obtain⟨ts,h1,h2,h3⟩:=yF _ _ h
 match ts,h1 with
 |[t],_=>exact⟨t,h2.1,by simpa[bY] using h3⟩
mutual
theorem GM:∀t:T,(kP t).map T.n=flat t
 |.nd n ks=>by rw[kP,flat,aU,IK ks];rfl
theorem IK:∀ks:List T,(jB ks).map T.n=bY ks
 |[]=>rfl
 |k::ks=>by rw[jB,bY,bu,GM k,IK ks]
end
theorem ua(t:T):(kP t).length=(flat t).length:=by rw[<-GM,aD]
mutual
theorem Ei:∀(t:T) {i:Nat} {s:T} (rest:List Nd),(kP t)[i]?=some s->∃r,(flat t++rest).drop i=flat s++r
 |.nd n ks,0,s,rest,h=>by rw[kP]at h;obtain rfl:T.nd n ks=s:=au h;exact⟨rest,rfl⟩
 |.nd n ks,i+1,s,rest,h=>by rw[kP]at h;have:=AS ks rest (i:=i) h;rw[flat];exact this
theorem AS:∀(ks:List T) {i:Nat} {s:T} (rest:List Nd),(jB ks)[i]?=some s->∃r,(bY ks++rest).drop i=flat s++r
 |[],i,s,rest,h=>by cases h
 |k::ks,i,s,rest,h=>by
  rw[jB]at h;rw[bY,a_];by_cases hi:i<(kP k).length
  ·rw[aK hi]at h;exact Ei k (bY ks++rest) h
  ·rw[List.getElem?_append_right (by omega),ua]at h;rw[ua]at hi;obtain⟨r,hr⟩:=AS ks rest h;refine⟨r,?_⟩;rw[List.drop_append,aI (by omega),List.nil_append];exact hr
end
mutual
theorem IL:∀(t:T),vk t->∀s∈kP t,vk s
 |.nd n ks,hw,s,hs=>by
  rw[kP]at hs;rcases ai.1 hs with rfl|hs
  ·exact hw
  ·exact Ej ks hw.2 s hs
theorem Ej:∀(ks:List T),o9 ks->∀s∈jB ks,vk s
 |[],_,s,hs=>by cases hs
 |k::ks,hw,s,hs=>by
  rw[jB]at hs;rcases aT.1 hs with hs|hs
  ·exact IL k hw.1 s hs
  ·exact Ej ks hw.2 s hs
end
def LR(t:T):Prop:=∀s∈kP t,vX s.n=true
theorem wI:∀(l:List T) (i:Nat),tZ i l=true->∀s∈l,vX s.n=true
 |[],i,h,s,hs=>by cases hs
 |x::l,i,h,s,hs=>by
  unfold tZ at h;rw[aq]at h;rcases ai.1 hs with rfl|hs
  ·have:=h.1;unfold m5 at this;simp only[aq]at this;exact this.1.1
  ·exact wI l (i+1) h.2 s hs
theorem AT{k s:T}:∀{ks:List T},k∈ks->s∈kP k->s∈jB ks
 |[],hk,hs=>by cases hk
 |a::l,hk,hs=>by
  rw[jB];rcases ai.1 hk with rfl|hk
  ·exact List.mem_append_left _ hs
  ·exact List.mem_append_right _ (AT hk hs)
theorem LR.kid{n:Nd}{ks:List T}(h:LR (.nd n ks)):∀k∈ks,LR k:=fun k hk s hs=>h s (by rw[kP];exact af _ (AT hk hs))
theorem nC(a b:Int):max2 a b=max a b:=by unfold max2;split<;>omega
theorem wJ{a b:Int}(h:-9223372036854775808≤a+b∧a+b≤9223372036854775807):eT a b=a+b:=iT h
mutual
theorem vw:∀(t:T) (d:Int),(flat t).length≤1000000->1≤(cD t d).2∧(cD t d).2≤(flat t).length
 |.nd n ks,d,h=>by rw[flat,aC]at h⊢;have:=fun x y=>vz ks n.op x 0 y 0 ((bY ks).length) (by omega) (by omega) (by omega) (by omega);rw[cD];have:=this (if cm n.op>2∧ks≠[]then eT d 1 else d) (if cm n.op>2∧ks≠[]then eT d 1 else d);dsimp only;rw[wJ (by omega)];omega
theorem vz:∀(ks:List T) (op d:Int) (i:Nat) (most marks:Int) (B:Nat),0≤marks->marks≤B->(bY ks).length≤B->B≤1000000->0≤(fy op d i ks most marks).2∧(fy op d i ks most marks).2≤B
 |[],op,d,i,most,marks,B,h0,h1,h2,h3=>by rw[fy];exact⟨h0,h1⟩
 |k::ks,op,d,i,most,marks,B,h0,h1,h2,h3=>by
  rw[bY,an]at h2;rw[fy];have hk:=fun d'=>vw k d' (by omega);refine vz ks op d (i+1) _ _ B ?_ ?_ (by omega) h3
  ·split
   ·have:=hk (if decide (cm k.n.op<eF op i)=true then eT (if cm op<3∧i=1 then eT d marks else d) 1 else if cm op<3∧i=1 then eT d marks else d);omega
   ·exact h0
  ·split
   ·have:=hk (if decide (cm k.n.op<eF op i)=true then eT (if cm op<3∧i=1 then eT d marks else d) 1 else if cm op<3∧i=1 then eT d marks else d);omega
   ·exact h1
end
theorem Ek:∀(ks:List T) (op d:Int) (i:Nat) (most marks:Int),most≤(fy op d i ks most marks).1
 |[],op,d,i,most,marks=>by rw[fy];exact Int.le_refl _
 |k::ks,op,d,i,most,marks=>by rw[fy];refine Int.le_trans ?_ (Ek ks op d (i+1) _ _);rw[nC,nC];omega
theorem OV{t:T}{d:Int}(h:cm t.n.op<3):d≤(cD t d).1:=by
 cases t with
 |nd n ks=>have h:cm n.op<3:=h;rw[cD,if_neg (by omega)];exact Ek ..
theorem El(a b:ByteArray):(a==b)=decide (a=b):=by
 cases a with|mk x=>cases b with|mk y=>
 by_cases h:x=y
 ·subst h;rw[decide_eq_true rfl];show(x==x)=true;simp
 ·have:¬((⟨x⟩:ByteArray)=⟨y⟩):=fun e=>h (by injection e);rw[decide_eq_false this];show(x==y)=false;simpa using h
def yG(L:List cx)(s:ByteArray):Int:=match L.findIdx? (fun x=>x.name==s)with
 |some i=>i
 |none=>-1
def j8(L:List cx)(i:Nat):List (ByteArray×Bool):=(L.take i).map fun x=>(x.name,true)
theorem Em(L:List cx)(s:ByteArray):(fu s (L.map fun x=>(x.name,true))).getD false=L.any fun x=>s==x.name:=by
 induction L with
 |nil=>rfl
 |cons x L ih=>
  unfold fu at ih⊢;rw[aU,List.find?_cons,List.any_cons];dsimp only;cases e:s==x.name with
  |true=>rfl
  |false=>exact ih
theorem OW{L:List cx}{i:Nat}{x:cx}(h:L[i]?=some x):decide (yG L x.name<i)=(fu x.name (j8 L i)).getD false:=by
 unfold j8;rw[Em];unfold yG;have hi:=(ak.1 h).1;cases e:L.findIdx? (fun y=>y.name==x.name)with
 |none=>exfalso;rw[List.findIdx?_eq_none_iff]at e;have:=e x (az h);rw[El,decide_eq_true rfl]at this;cases this
 |some j=>
  rw[List.findIdx?_eq_some_iff_getElem]at e;obtain⟨hj,h1,h2⟩:=e;dsimp only;by_cases hji:j<i
  ·rw[decide_eq_true (by omega)];symm;rw[List.any_eq_true];refine⟨L[j],?_,?_⟩
   ·rw[List.mem_iff_getElem?];exact⟨j,by rw[List.getElem?_take,if_pos hji];exact aa hj⟩
   ·rw[El]at h1⊢;rw[of_decide_eq_true h1];exact decide_eq_true rfl
  ·rw[decide_eq_false (by omega)];symm;rw[List.any_eq_false];intro y hy hyx;obtain⟨k,hk⟩:=List.mem_iff_getElem?.1 hy;rw[List.getElem?_take]at hk;split at hk
   ·rename_i hki;have W8:k<L.length:=by omega
    have e3:L[k]=y:=by rw[aa W8]at hk;exact au hk
    have:=h2 k (by omega);rw[e3]at this;rw[El]at this hyx;rw[of_decide_eq_true hyx,decide_eq_true rfl]at this;exact this rfl
   ·cases hk
def uc(x:cx)(i:Nat)(dup:Bool):Int:=
 if(i:Int)≥4096 then 34
 else if gz x.name=false∨dup=true then 43
 else if x.cj<0∨iy x.tree=false then 1
 else if x.tree.any (fun n=>decide (bV n.op=-1)&&decide (n.kids>16))then 44
 else if x.tree.any (fun n=>decide (n.op=2)&&(decide (n.n<0)||decide (n.n≥i)))then 43
 else if(((mJ x).map fun t=>(cD t 0).1).getD 0)>64 then 42 else 0
theorem K1{x:cx}{i:Nat}{names:List (ByteArray×Bool)}:uc x i ((fu x.name names).getD false)=fz x i names:=by
 unfold uc fz;split
 ·rfl
 split
 ·rfl
 have ht:mJ x=(dJ (x.tree.length+1) x.tree true).map (·.1):=rfl;unfold iy;cases e:dJ (x.tree.length+1) x.tree true with
 |none=>simp
 |some p=>
  obtain⟨t,rest⟩:=p;dsimp only;cases rest with
  |cons a l=>simp
  |nil=>
   have hfl:=gi _ _ _ _ _ e;rw[aV]at hfl;have hw:=(jS _ _ _ _ _ e).1;have hs:=mP _ _ _ _ _ e;by_cases h1:x.cj<0
   ·rw[if_pos (.inl h1),if_pos (.inr h1)]
   ·rw[if_neg (show ¬(x.cj<0∨true=false)from fun h=>h.elim h1 (fun h=>by cases h)),if_neg (show ¬(0<([]:List Nd).length∨x.cj<0)from fun h=>h.elim (fun h=>by cases h) h1)];have hok:LR t:=fun s hs'=>by
     have:tZ 0 (kP t)=true:=by
      cases t with
      |nd n ks=>rw[wH,aq];exact hs
     exact wI _ _ this s hs'
    have e44:x.tree.any (fun n=>decide (bV n.op=-1)&&decide (n.kids>16))=x.tree.any fun n=>decide (n.kids>16):=by
     rw[hfl];have:∀l:List T,(∀s∈l,vX s.n=true)->(l.map T.n).any (fun n=>decide (bV n.op=-1)&&decide (n.kids>16))=(l.map T.n).any fun n=>decide (n.kids>16):=by
      intro l hl
      induction l with
      |nil=>rfl
      |cons s l ih=>
       rw[aU,List.any_cons,List.any_cons,ih fun s' hs'=>hl s' (af _ hs')];congr 1;have:=om (hl s (aj ..));have hr:=tY s.n.op;by_cases hk:bV s.n.op=-1
       ·rw[decide_eq_true hk];rfl
       ·rw[decide_eq_false hk,decide_eq_false (by have:=this.2 (by omega);omega)];rfl
     rw[<-GM];exact this _ hok
    rw[e44,ht,e];simp only[av,Option.getD_some]
noncomputable def aiY(l:Nat):Code:=pc (bD Tryz.f76) (pd l)
theorem W9:bT Tryz.prog 76 [.bF 0] .normal=.ok ⟨76,11,c_ 76 [.bF 0],[.code (bD Tryz.f76)],[],.run,.normal⟩:=by kernel_rfl
theorem yH:dL 76 11 2:=fun st=>by kernel_rfl
noncomputable abbrev IM:List Item:=[.code .ret,.inBlock 0,.code (aiY 7)]
theorem aiZ:Pc 76 11 [.code (bD Tryz.f76)] ([(0,i8 (v 1))]) Nh [] [] 23 [] [2] IM [i64 (.lit 1)] []:={}
theorem ai0:Pc 76 11 [.code (bD Tryz.f76)] ([(0,i8 (v 1))]) Ni [] [] 26 [] [2] IM [i64 (.lit 1)] []:={}
theorem ai1:Pc 76 11 [.code (bD Tryz.f76)] ([(0,i8 (v 1))]) VE [] [] 32 [] [2] IM [i64 (.lit 2)] []:={}
theorem ai2:Pc 76 11 [.code (bD Tryz.f76)] ([(0,i8 (v 1))]) aaN [] [] 38 [] [2] IM [i64 (.lit 3)] []:={}
theorem ai3:Pc 76 11 [.code (bD Tryz.f76)] ([(0,i8 (v 1))]) aaO [] [] 40 [] [2] [.code .ret] [i64 (.lit 4)] []:={}
noncomputable def ai4(l:Nat):Code:=pc (bD Tryz.f52) (pd l)
theorem ju:bT Tryz.prog 52 [.bF 0] .normal=.ok ⟨52,24,c_ 52 [.bF 0],[.code (bD Tryz.f52)],[],.run,.normal⟩:=by kernel_rfl
theorem jv:dL 52 24 2:=fun st=>by kernel_rfl
noncomputable abbrev mQ:List Item:=[.code .ret,.inBlock 0,.code (ai4 7)]
theorem ai5:Pc 52 24 [.code (bD Tryz.f52)] ([(0,i8 (.lit 1))]) [] [] [] 23 [] [2] mQ [i64 (.lit 0)] []:={}
theorem ai6:Pc 52 24 [.code (bD Tryz.f52)] ([(0,i8 (.lit 2))]) [] [] [] 26 [] [2] mQ [i64 (.lit 0)] []:={}
theorem ai7:Pc 52 24 [.code (bD Tryz.f52)] ([(0,i8 (.lit 3))]) [] [] [] 35 [] [2] mQ [i64 (.lit 1)] []:={}
theorem adk:Pc 52 24 [.code (bD Tryz.f52)] ([(0,i8 (.lit 13))]) [] [] [] 41 [] [2] mQ [i64 (.lit 1)] []:={}
theorem adl:Pc 52 24 [.code (bD Tryz.f52)] ([(0,i8 (.lit 14))]) [] [] [] 47 [] [2] mQ [i64 (.lit 1)] []:={}
theorem adm:Pc 52 24 [.code (bD Tryz.f52)] ([(0,i8 (.lit 15))]) [] [] [] 53 [] [2] mQ [i64 (.lit 1)] []:={}
theorem adn:Pc 52 24 [.code (bD Tryz.f52)] ([(0,i8 (.lit 16))]) [] [] [] 59 [] [2] mQ [i64 (.lit 1)] []:={}
theorem ado:Pc 52 24 [.code (bD Tryz.f52)] ([(0,i8 (.lit 18))]) [] [] [] 62 [] [2] mQ [i64 (.lit 1)] []:={}
theorem ai8:Pc 52 24 [.code (bD Tryz.f52)] ([(0,i8 (.lit 4))]) [] [] [] 71 [] [2] mQ [i64 (.lit 2)] []:={}
theorem ai9:Pc 52 24 [.code (bD Tryz.f52)] ([(0,i8 (.lit 5))]) [] [] [] 77 [] [2] mQ [i64 (.lit 2)] []:={}
theorem ai_:Pc 52 24 [.code (bD Tryz.f52)] ([(0,i8 (.lit 6))]) [] [] [] 80 [] [2] mQ [i64 (.lit 2)] []:={}
theorem adp:Pc 52 24 [.code (bD Tryz.f52)] ([(0,i8 (.lit 12))]) [] [] [] 86 [] [2] mQ [i64 (.lit 3)] []:={}
theorem adq:Pc 52 24 [.code (bD Tryz.f52)] ([(0,i8 (.lit 10))]) [] [] [] 95 [] [2] mQ [i64 (.lit (-1))] []:={}
theorem adr:Pc 52 24 [.code (bD Tryz.f52)] ([(0,i8 (.lit 11))]) [] [] [] 101 [] [2] mQ [i64 (.lit (-1))] []:={}
theorem ads:Pc 52 24 [.code (bD Tryz.f52)] ([(0,i8 (.lit 17))]) [] [] [] 104 [] [2] mQ [i64 (.lit (-1))] []:={}
theorem ai':Pc 52 24 [.code (bD Tryz.f52)] ([(0,i8 (v 1))]) [((.cmp .eql (v 1) (.lit 1)),false),((.cmp .eql (v 1) (.lit 2)),false),((.cmp .eql (v 1) (.lit 3)),false),((.cmp .eql (v 1) (.lit 13)),false),((.cmp .eql (v 1) (.lit 14)),false),((.cmp .eql (v 1) (.lit 15)),false),((.cmp .eql (v 1) (.lit 16)),false),((.cmp .eql (v 1) (.lit 18)),false),((.cmp .eql (v 1) (.lit 4)),false),((.cmp .eql (v 1) (.lit 5)),false),((.cmp .eql (v 1) (.lit 6)),false),((.cmp .eql (v 1) (.lit 12)),false),((.cmp .eql (v 1) (.lit 10)),false),((.cmp .eql (v 1) (.lit 11)),false),((.cmp .eql (v 1) (.lit 17)),false)] [] [] 106 [] [2] [.code .ret] [i64 (.lit (-2))] []:={}
noncomputable def auG(l:Nat):Code:=pc (bD Tryz.f71) (pd l)
theorem W_:bT Tryz.prog 71 [.bF 0] .normal=.ok ⟨71,9,c_ 71 [.bF 0],[.code (bD Tryz.f71)],[],.run,.normal⟩:=by kernel_rfl
theorem Xa:dL 71 9 2:=fun st=>by kernel_rfl
theorem Xb(a b:Bool):Pc 71 9 [.code (bD Tryz.f71)] ([(0,.int .u8 (v 1))]) [((.cmp .geq (v 1) (.lit 97)),a),((.cmp .leq (v 1) (.lit 122)),b)] [] [] 14 [] [2] [.code .ret] [.bool (.lit (a&&b))] []:=by cases a<;>cases b<;>exact{}
noncomputable def auH(l:Nat):Code:=pc (bD Tryz.f90) (pd l)
theorem Xc:bT Tryz.prog 90 [.bF 0] .normal=.ok ⟨90,9,c_ 90 [.bF 0],[.code (bD Tryz.f90)],[],.run,.normal⟩:=by kernel_rfl
theorem Xd:dL 90 9 2:=fun st=>by kernel_rfl
theorem Xe(a b:Bool):Pc 90 9 [.code (bD Tryz.f90)] ([(0,.int .u8 (v 1))]) [((.cmp .geq (v 1) (.lit 48)),a),((.cmp .leq (v 1) (.lit 57)),b)] [] [] 14 [] [2] [.code .ret] [.bool (.lit (a&&b))] []:=by cases a<;>cases b<;>exact{}
noncomputable def GN(l:Nat):Code:=pc (bD Tryz.f72) (pd l)
theorem Xf:bT Tryz.prog 72 [.bF 0] .normal=.ok ⟨72,21,c_ 72 [.bF 0],[.code (bD Tryz.f72)],[],.run,.normal⟩:=by kernel_rfl
theorem yI:dL 72 21 2:=fun st=>by kernel_rfl
theorem aja:Pc 72 21 [.code (bD Tryz.f72)] ([(0,.int .u8 (v 1))]) [] [] [] 7 [] [0,3] [.inRegion (opsOf (GN 6)) [1,2,3,4,5,6,7,8,9,10,11,12,13,14,15,16,17,18],.code .ret] [.int .u8 (v 1),.int .u8 (v 1)] []:={}
theorem ajb:dy 21 (opsOf (GN 6)) 1 [(3,.bF 3)] 71 [.bF 3] 4:={}
noncomputable abbrev IN:List Item:=[.inRegion (opsOf (GN 6)) [2,3,4,5,6,7,8,9,10,11,12,13,14,15,16,17,18],.code .ret]
theorem ajc:Pc 72 21 IN ([(0,.int .u8 (v 1)),(4,TB)]) [] [] [] 18 [] [2] [.code .ret] [TB] []:={}
theorem ajd:Pc 72 21 IN ([(0,.int .u8 (v 1)),(4,FB)]) [((.cmp .geq (v 1) (.lit 65)),true),((.cmp .leq (v 1) (.lit 90)),true)] [] [] 18 [] [2] [.code .ret] [TB] []:={}
noncomputable abbrev T5:List Item:=[.inRegion (opsOf (GN 6)) [12,13,14,15,16,17,18],.code .ret]
theorem aje:Pc 72 21 IN ([(0,.int .u8 (v 1)),(4,FB)]) [((.cmp .geq (v 1) (.lit 65)),true),((.cmp .leq (v 1) (.lit 90)),false)] [] [] 10 [] [0,13,14] T5 [.int .u8 (v 1),FB,.int .u8 (v 1)] []:={}
theorem ajf:Pc 72 21 IN ([(0,.int .u8 (v 1)),(4,FB)]) [((.cmp .geq (v 1) (.lit 65)),false)] [] [] 10 [] [0,13,14] T5 [.int .u8 (v 1),FB,.int .u8 (v 1)] []:={}
theorem ajg:dy 21 (opsOf (GN 6)) 12 [(13,FB),(14,.bF 14)] 90 [.bF 14] 15:={}
noncomputable abbrev OX:List Item:=[.inRegion (opsOf (GN 6)) [13,14,15,16,17,18],.code .ret]
theorem ajh:Pc 72 21 OX ([(0,.int .u8 (v 1)),(13,FB),(15,TB)]) [] [] [] 7 [] [2] [.code .ret] [TB] []:={}
theorem aji:Pc 72 21 OX ([(0,.int .u8 (v 1)),(13,FB),(15,FB)]) [((.cmp .eql (v 1) (.lit 95)),true)] [] [] 7 [] [2] [.code .ret] [TB] []:={}
theorem ajj:Pc 72 21 OX ([(0,.int .u8 (v 1)),(13,FB),(15,FB)]) [((.cmp .eql (v 1) (.lit 95)),false)] [] [] 7 [] [2] [.code .ret] [FB] []:={}
noncomputable def auI(l:Nat):Code:=pc (bD Tryz.f73) (pd l)
theorem Xg:bT Tryz.prog 73 [] .normal=.ok ⟨73,2,c_ 73 [],[.code (bD Tryz.f73)],[],.run,.normal⟩:=by kernel_rfl
theorem Xh:dL 73 2 0:=fun st=>by kernel_rfl
theorem ajk:Pc 73 2 [.code (bD Tryz.f73)] ([]) [] [] [] 9 [100] [0] [.code .ret] [.slice (some (eD 100 0)) (.lit 11) (.lit 11)] [(100,.cells [.str ⟨#[108,101,116]⟩,.str ⟨#[111,117,116]⟩,.str ⟨#[114,97,99,101]⟩,.str ⟨#[99,97,110,99,101,108]⟩,.str ⟨#[97,108,108]⟩,.str ⟨#[102,105,114,115,116]⟩,.str ⟨#[119,104,101,110]⟩,.str ⟨#[102,97,105,108]⟩,.str ⟨#[112,97,110,105,99]⟩,.str ⟨#[109,101,109,111]⟩,.str ⟨#[98,117,114,110]⟩] 9)]:={}
noncomputable def ia(l:Nat):Code:=pc (bD Tryz.f49) (pd l)
theorem Xi:bT Tryz.prog 49 [.bF 0] .normal=.ok ⟨49,44,c_ 49 [.bF 0],[.code (bD Tryz.f49)],[],.run,.normal⟩:=by kernel_rfl
theorem uQ:dL 49 44 2:=fun st=>by kernel_rfl
theorem ajl:Pc 49 44 [.code (bD Tryz.f49)] ([(0,ss 1)]) [((.cmp .lss (.jH (.var 1)) (.lit 1)),true)] [] [] 27 [] [2] [.code .ret,.code (ia 7)] [FB] []:={}
theorem ajm:Pc 49 44 [.code (bD Tryz.f49)] ([(0,ss 1)]) S5 [] [] 27 [] [2] [.code .ret,.code (ia 7)] [FB] []:={}
theorem ajn:Pc 49 44 [.code (bD Tryz.f49)] ([(0,ss 1)]) S6 [] [] 17 [] [0,14,15] [.inRegion (opsOf (ia 12)) [10,11,12,13],.code (ia 13),.code (ia 7)] [ss 1,FB,ss 1] []:={}
theorem ajo:j7 44 (opsOf (ia 12)) 10 [(14,FB)] (.index 9 (.tmp 15) (.const (.int .i64 0))) 5 (some 16):={}
theorem ajp:dy 44 (opsOf (ia 12)) 11 [(14,FB),(16,.bF 16)] 71 [.bF 16] 17:={}
noncomputable abbrev T6:List Item:=[.inRegion (opsOf (ia 12)) [12,13],.code (ia 13),.code (ia 7)]
theorem adt:Pc 49 44 T6 ([(0,ss 1),(14,FB),(17,FB)]) [] [] [] 8 [] [2] [.code .ret,.code (ia 7)] [FB] []:={}
noncomputable abbrev Eo:List Item:=[.code (ia 116),.inLoop (ia 116),.inBlock 0,.code (ia 15)]
theorem adu:Pc 49 44 T6 ([(0,ss 1),(14,FB),(17,TB)]) [] [] [] 12 [] [0,3] Eo [ss 1,i64 (.lit 0)] []:={}
theorem ajq:Pc 49 44 Eo ([(0,ss 1),(3,i64 (v 6))]) [((.cmp .lss (v 6) (.jH (.var 1))),true)] [] [] 16 [] [0,3,26,27] [.inRegion (opsOf (ia 1864)) [2,3,4],.code (ia 1865),.inBlock 1,.code (ia 467),.inLoop (ia 116),.inBlock 0,.code (ia 15)] [ss 1,i64 (v 6),ss 1,i64 (v 6)] []:={}
theorem ajr:j7 44 (opsOf (ia 1864)) 2 [] (.index 9 (.tmp 26) (.tmp 27)) 5 (some 28):={}
theorem ajs:dy 44 (opsOf (ia 1864)) 3 [(28,.bF 28)] 72 [.bF 28] 29:={}
noncomputable abbrev adv:List Item:=[.inRegion (opsOf (ia 1864)) [4],.code (ia 1865),.inBlock 1,.code (ia 467),.inLoop (ia 116),.inBlock 0,.code (ia 15)]
theorem ajt:Pc 49 44 adv ([(0,ss 1),(3,i64 (v 6)),(29,TB)]) [] [] [] 11 [] [0,3] Eo [ss 1,i64 (.op .add .i64 (v 6) (.lit 1))] []:={}
theorem aju:Pc 49 44 adv ([(0,ss 1),(3,i64 (v 6)),(29,FB)]) [] [] [] 7 [] [2] [.code .ret,.inBlock 1,.code (ia 467),.inLoop (ia 116),.inBlock 0,.code (ia 15)] [FB] []:={}
theorem ajv:Pc 49 44 Eo ([(0,ss 1),(3,i64 (v 6))]) [((.cmp .lss (v 6) (.jH (.var 1))),false)] [] [] 12 [] [0] [.inRegion (opsOf (ia 30)) [0,1],.code (ia 31)] [ss 1] []:={}
theorem ajw:dy 44 (opsOf (ia 30)) 0 [] 73 [] 31:={}
noncomputable abbrev AU:List Item:=[.code (ia 500),.inLoop (ia 500),.inBlock 2,.code (ia 63)]
theorem ajx:Pc 49 44 [.inRegion (opsOf (ia 30)) [1],.code (ia 31)] ([(0,ss 1),(31,.bF 31)]) [] [] [] 9 [] [0,4,5] AU [ss 1,.bF 31,i64 (.lit 0)] []:={}
noncomputable abbrev OY:List (Nat×AV):=[(0,ss 1),(4,sA 80 83 81 82),(5,i64 (v 10))]
noncomputable abbrev OZ:List (AA×AV):=[(eC 80 83 10,.ss (.var 2))]
theorem ajy:Pc 49 44 AU (OY) (fo 10 81++[((.seq false (.var 2) (.var 1)),true)]) OZ [] 26 [] [2] [.code .ret,.inBlock 3,.code (ia 2003),.inLoop (ia 500),.inBlock 2,.code (ia 63)] [FB] []:={}
theorem ajz:Pc 49 44 AU (OY) (fo 10 81++[((.seq false (.var 2) (.var 1)),false)]) OZ [] 30 [] [0,4,5] AU [ss 1,sA 80 83 81 82,i64 (.op .add .i64 (v 10) (.lit 1))] []:={}
theorem ajA:Pc 49 44 AU (OY) [((.cmp .lss (v 10) (.tn (v 81))),false)] [] [] 14 [] [2] [.code .ret] [TB] []:={}
noncomputable def K2(l:Nat):Code:=pc (bD Tryz.f50) (pd l)
theorem Xj:bT Tryz.prog 50 [.bF 0,.bF 1] .normal=.ok ⟨50,22,c_ 50 [.bF 0,.bF 1],[.code (bD Tryz.f50)],[],.run,.normal⟩:=by kernel_rfl
theorem O0:dL 50 22 4:=fun st=>by kernel_rfl
noncomputable abbrev AW:List Item:=[.code (K2 52),.inLoop (K2 52),.inBlock 0,.code (K2 7)]
theorem ajB(z:Bool):Pc 50 22 [.code (bD Tryz.f50)] ([(0,.agg [cU z 50 53 51 52,.bF 9]),(1,ss 1)]) [] [] [] 12 [100] [1,2,5] AW [ss 1,bC 100,i64 (.lit 0)] [(100,.cells [cU z 50 53 51 52,.bF 9] 25)]:=by cases z<;>exact{}
noncomputable abbrev O1:List (AA×AV):=[(eD 64 0,sA 50 53 51 52),(eB 50 53 10 3,.ss (.var 2))]
noncomputable abbrev O2:List (Nat×AV):=[(1,ss 1),(2,bC 64),(5,i64 (v 10))]
theorem ajC:Pc 50 22 AW (O2) (fo 10 51++[((.seq false (.var 2) (.var 1)),true)]) O1 [] 30 [] [4] [.code .ret,.inBlock 1,.code (K2 211),.inLoop (K2 52),.inBlock 0,.code (K2 7)] [i64 (v 10)] []:={}
theorem ajD:Pc 50 22 AW (O2) (fo 10 51++[((.seq false (.var 2) (.var 1)),false)]) O1 [] 33 [] [1,2,5] AW [ss 1,bC 64,i64 (.op .add .i64 (v 10) (.lit 1))] []:={}
theorem ajE(z:Bool):Pc 50 22 AW (O2) [((.cmp .lss (v 10) (dO z 51)),false)] [(eD 64 0,cU z 50 53 51 52)] [] 15 [] [4] [.code .ret] [i64 (.lit (-1))] []:=by cases z<;>exact{}
noncomputable def K3(l:Nat):Code:=pc (bD Tryz.f74) (pd l)
theorem GO:bT Tryz.prog 74 [.bF 0,.bF 1] .normal=.ok ⟨74,45,c_ 74 [.bF 0,.bF 1],[.code (bD Tryz.f74)],[],.run,.normal⟩:=by kernel_rfl
theorem uR:dL 74 45 4:=fun st=>by kernel_rfl
noncomputable abbrev ru:List Item:=[.code (K3 56),.inLoop (K3 56),.inBlock 0,.code (K3 15)]
theorem adw(z:Bool):Pc 74 45 [.code (bD Tryz.f74)] ([(0,cU z 50 53 51 52),(1,i64 (v 10))]) [] [] [] 11 [] [0,1,5] ru [cU z 50 53 51 52,i64 (v 10),i64 (.lit 1)] []:=by cases z<;>exact{}
noncomputable abbrev O3:List (Nat×AV):=[(0,sA 50 53 51 52),(1,i64 (v 10)),(5,i64 (v 11))]
noncomputable abbrev IP:List (AA×AV):=[(eA 50 53 10 4 2,i64 (v 12))]
theorem ajF:Pc 74 45 ru (O3) (((.cmp .gtr (v 11) (.lit 0)),true)::(fo 10 51++[((.cmp .lss (v 12) (.lit 0)),false),((.cmp .gtr (v 12) (.tn (v 51))),false)])) IP [] 60 [] [0,1,5] ru [sA 50 53 51 52,i64 (.op .add .i64 (v 10) (.lit 1)),i64 (.op .add .i64 (.op .sub .i64 (v 11) (.lit 1)) (v 12))] []:={}
noncomputable abbrev IQ:List Item:=[.code .ret,.code (K3 453),.inBlock 1,.inLoop (K3 56),.inBlock 0,.code (K3 15)]
theorem adx(z:Bool):Pc 74 45 ru ([(0,cU z 50 53 51 52),(1,i64 (v 10)),(5,i64 (v 11))]) [((.cmp .gtr (v 11) (.lit 0)),true),((.cmp .lss (v 10) (.lit 0)),false),((.cmp .geq (v 10) (dO z 51)),true)] [] [] 44 [] [4] IQ [i64 (.lit (-1))] []:=by cases z<;>exact{}
theorem ajG:Pc 74 45 ru (O3) (((.cmp .gtr (v 11) (.lit 0)),true)::(fo 10 51++[((.cmp .lss (v 12) (.lit 0)),true)])) IP [] 44 [] [4] IQ [i64 (.lit (-1))] []:={}
theorem ajH:Pc 74 45 ru (O3) (((.cmp .gtr (v 11) (.lit 0)),true)::(fo 10 51++[((.cmp .lss (v 12) (.lit 0)),false),((.cmp .gtr (v 12) (.tn (v 51))),true)])) IP [] 44 [] [4] IQ [i64 (.lit (-1))] []:={}
theorem ajI(z:Bool):Pc 74 45 ru ([(0,cU z 50 53 51 52),(1,i64 (v 10)),(5,i64 (v 11))]) [((.cmp .gtr (v 11) (.lit 0)),false)] [] [] 13 [] [4] [.code .ret] [i64 (v 10)] []:=by cases z<;>exact{}
noncomputable def vY(l:Nat):Code:=pc (bD Tryz.f75) (pd l)
theorem Xk:bT Tryz.prog 75 [.bF 0,.bF 1] .normal=.ok ⟨75,27,c_ 75 [.bF 0,.bF 1],[.code (bD Tryz.f75)],[],.run,.normal⟩:=by kernel_rfl
theorem Xl:dL 75 27 4:=fun st=>by kernel_rfl
noncomputable abbrev AX:List Item:=[.code (vY 244),.inLoop (vY 244),.inBlock 0,.code (vY 31)]
theorem ajJ:Pc 75 27 [.code (bD Tryz.f75)] ([(0,sA 50 53 51 52),(1,i64 (v 10))]) [] [] [] 21 [] [0,1,5,6,7] AX [sA 50 53 51 52,i64 (v 10),cn,i64 (.op .add .i64 (v 10) (.lit 1)),i64 (.lit 0)] []:={}
noncomputable abbrev Xm:List Item:=[.inRegion (opsOf (vY 3913)) [2,3],.inBlock 1,.code (vY 979),.inLoop (vY 244),.inBlock 0,.code (vY 31)]
noncomputable abbrev O4:List (AA×AV):=[(eA 50 53 10 4 2,i64 (v 13))]
theorem ady:Pc 75 27 AX ([(0,sA 50 53 51 54),(1,i64 (v 10)),(5,cn),(6,i64 (v 11)),(7,i64 (v 9))]) (fo 10 51++[((.cmp .lss (v 9) (v 13)),true)]) O4 [] 26 [101] [0,1,5,7,23,24] Xm [sA 50 53 51 54,i64 (v 10),.slice (some (eD 101 0)) (.lit 1) (v 101),i64 (v 9),sA 50 53 51 54,i64 (v 11)] [(101,.row [i64 (v 11)] 3 (v 101))]:={}
theorem ajK:Pc 75 27 AX ([(0,sA 50 53 51 54),(1,i64 (v 10)),(5,.slice (some (eD 52 0)) (v 8) (v 57)),(6,i64 (v 11)),(7,i64 (v 9))]) (fo 10 51++Tz) O4 vj 26 [101] [0,1,5,7,23,24] Xm [sA 50 53 51 54,i64 (v 10),.slice (some (eD 101 0)) (.plus (.tn (v 8)) (.lit 1)) (v 101),i64 (v 9),sA 50 53 51 54,i64 (v 11)] TA:={}
theorem ajL:dy 27 (opsOf (vY 3913)) 2 [(23,.bF 23),(24,.bF 24)] 74 [.bF 23,.bF 24] 25:={}
theorem ajM:Pc 75 27 [.inRegion (opsOf (vY 3913)) [3],.inBlock 1,.code (vY 979),.inLoop (vY 244),.inBlock 0,.code (vY 31)] ([(0,.bF 0),(1,i64 (v 10)),(5,.bF 5),(7,i64 (v 9)),(25,i64 (v 12))]) [] [] [] 9 [] [0,1,5,6,7] AX [.bF 0,i64 (v 10),.bF 5,i64 (v 12),i64 (.op .add .i64 (v 9) (.lit 1))] []:={}
theorem ajN:Pc 75 27 AX ([(0,sA 50 53 51 54),(1,i64 (v 10)),(5,.bF 5),(6,i64 (v 11)),(7,i64 (v 9))]) (fo 10 51++[((.cmp .lss (v 9) (v 13)),false)]) O4 [] 18 [] [4] [.code .ret] [.bF 5] []:={}
noncomputable def kE(l:Nat):Code:=pc (bD Tryz.f103) (pd l)
theorem RS:bT Tryz.prog 103 [.bF 0,.bF 1] .normal=.ok ⟨103,19,c_ 103 [.bF 0,.bF 1],[.code (bD Tryz.f103)],[],.run,.normal⟩:=by kernel_rfl
theorem wK:dL 103 19 4:=fun st=>by kernel_rfl
theorem ajO:Pc 103 19 [.code (bD Tryz.f103)] ([(0,i8 (v 1)),(1,i64 (v 10))]) [] [] [] 8 [] [1,5] [.inRegion (opsOf (kE 12)) [1],.code (kE 13),.code (kE 7)] [i64 (v 10),i8 (v 1)] []:={}
theorem ajP:dy 19 (opsOf (kE 12)) 1 [(5,.bF 5)] 76 [.bF 5] 6:={}
noncomputable abbrev IS:List Item:=[.inRegion (opsOf (kE 12)) [],.code (kE 13),.code (kE 7)]
theorem ajQ:Pc 103 19 IS ([(1,i64 (v 10)),(6,i64 (.lit 1))]) [] [] [] 11 [] [9] [.inRegion (opsOf (kE 212)) [1,2,3],.code .ret,.inBlock 0,.code (kE 7)] [i64 (v 10)] []:={}
theorem ajR:j7 19 (opsOf (kE 212)) 1 [] (.call {callee:=.builtin .min,args:=#[.tmp 9,.const (.int .i64 1)],argTypes:=#[3,3]}) 3 (some 10):={}
noncomputable abbrev O5:List Item:=[.code .ret,.inBlock 0,.code (kE 7)]
theorem ajS:Pc 103 19 [.inRegion (opsOf (kE 212)) [2,3],.code .ret,.inBlock 0,.code (kE 7)] ([(10,i64 (v 11))]) [] [] [] 3 [] [4] O5 [i64 (.op .add .i64 (.lit 1) (v 11))] []:={}
theorem ajT:Pc 103 19 IS ([(1,i64 (v 10)),(6,i64 (.lit 2))]) [] [] [] 17 [] [14] [.inRegion (opsOf (kE 860)) [1,2,3],.code .ret,.inBlock 0,.code (kE 7)] [i64 (v 10)] []:={}
theorem ajU:j7 19 (opsOf (kE 860)) 1 [] (.call {callee:=.builtin .min,args:=#[.tmp 14,.const (.int .i64 1)],argTypes:=#[3,3]}) 3 (some 15):={}
theorem ajV:Pc 103 19 [.inRegion (opsOf (kE 860)) [2,3],.code .ret,.inBlock 0,.code (kE 7)] ([(15,i64 (v 11))]) [] [] [] 3 [] [4] O5 [i64 (.op .add .i64 (.lit 2) (v 11))] []:={}
theorem ajW:Pc 103 19 IS ([(6,i64 (.lit 3))]) [] [] [] 24 [] [4] O5 [i64 (.lit 3)] []:={}
theorem ajX:Pc 103 19 IS ([(6,i64 (.lit 4))]) [] [] [] 26 [] [4] [.code .ret] [i64 (.lit 1)] []:={}
noncomputable def uS(l:Nat):Code:=pc (bD Tryz.f78) (pd l)
noncomputable abbrev Ep:List AV:=[.bF 0,.bF 1,.bF 2,.bF 3,.bF 4]
theorem Xn:bT Tryz.prog 78 Ep .normal=.ok ⟨78,24,c_ 78 Ep,[.code (bD Tryz.f78)],[],.run,.normal⟩:=by kernel_rfl
theorem Xo:dL 78 24 10:=fun st=>by kernel_rfl
theorem ajY:Pc 78 24 [.code (bD Tryz.f78)] ([(0,.bF 0),(1,i64 (v 10)),(2,i64 (v 11)),(3,i64 (v 12)),(4,i64 (v 13))]) [] [] [] 11 [] [0,3,4,11,12,13,14] [.inRegion (opsOf (uS 12)) [4],.code (uS 13),.code (uS 7)] [.bF 0,i64 (v 12),i64 (v 13),.bF 0,i64 (v 10),i64 (v 11),i64 (v 12)] []:={}
theorem ajZ:dy 24 (opsOf (uS 12)) 4 [(11,.bF 11),(12,.bF 12),(13,.bF 13),(14,.bF 14)] 91 [.bF 11,.bF 12,.bF 13,.bF 14] 15:={}
noncomputable abbrev T7:List Item:=[.inRegion (opsOf (uS 12)) [],.code (uS 13),.code (uS 7)]
theorem aj0:Pc 78 24 T7 ([(0,.bF 0),(3,i64 (v 12)),(4,i64 (v 13)),(15,TB)]) [] [] [] 13 [] [18,19,20,21] [.inRegion (opsOf (uS 14)) [4,5,6],.code .ret] [i64 (.op .add .i64 (v 13) (.lit 1)),.bF 0,i64 (v 12),i64 (.op .add .i64 (v 13) (.lit 1))] []:={}
theorem aj1:Pc 78 24 T7 ([(0,.bF 0),(3,i64 (v 12)),(4,i64 (v 13)),(15,FB)]) [] [] [] 9 [] [18,19,20,21] [.inRegion (opsOf (uS 14)) [4,5,6],.code .ret] [i64 (v 13),.bF 0,i64 (v 12),i64 (v 13)] []:={}
theorem aj2:dy 24 (opsOf (uS 14)) 4 [(19,.bF 19),(20,.bF 20),(21,.bF 21)] 53 [.bF 19,.bF 20,.bF 21] 22:={}
theorem aj3:j7 24 (opsOf (uS 14)) 5 [] (.call {callee:=.builtin .max,args:=#[.tmp 18,.tmp 22],argTypes:=#[3,3]}) 3 (some 23):={}
theorem aj4:Pc 78 24 [.inRegion (opsOf (uS 14)) [6],.code .ret] ([(23,.bF 23)]) [] [] [] 2 [] [10] [.code .ret] [.bF 23] []:={}
noncomputable def iJ(l:Nat):Code:=pc (bD Tryz.f53) (pd l)
theorem Xp:bT Tryz.prog 53 [.bF 0,.bF 1,.bF 2] .normal=.ok ⟨53,66,c_ 53 [.bF 0,.bF 1,.bF 2],[.code (bD Tryz.f53)],[],.run,.normal⟩:=by kernel_rfl
theorem GP:dL 53 66 6:=fun st=>by kernel_rfl
noncomputable abbrev Xq:List (AA×AV):=[(eB 50 53 10 4,i8 (v 1)),(eA 50 53 10 4 1,i64 (v 2)),(eA 50 53 10 4 2,i64 (v 3)),(eA 50 53 10 4 3,i64 (v 4))]
theorem aj5:Pc 53 66 [.code (bD Tryz.f53)] ([(0,sA 50 53 51 52),(1,i64 (v 10)),(2,i64 (v 11))]) (fo 10 51) Xq [] 17 [100] [0,1,2,7,18,19] [.inRegion (opsOf (iJ 14)) [2,3],.code (iJ 15)] [sA 50 53 51 52,i64 (v 10),i64 (v 11),bC 100,sA 50 53 51 52,i64 (v 10)] Aq:={}
theorem aj6:dy 66 (opsOf (iJ 14)) 2 [(18,.bF 18),(19,.bF 19)] 75 [.bF 18,.bF 19] 20:={}
theorem aj7:Pc 53 66 [.inRegion (opsOf (iJ 14)) [3],.code (iJ 15)] ([(0,.bF 0),(1,i64 (v 10)),(2,i64 (v 11)),(7,bC 64),(20,.bF 20)]) [] [(eD 64 0,i8 (v 1))] [] 6 [] [0,1,2,8,22] [.inRegion (opsOf (iJ 30)) [2,3],.code (iJ 31)] [.bF 0,i64 (v 10),i64 (v 11),.bF 20,i8 (v 1)] []:={}
theorem aj8:dy 66 (opsOf (iJ 30)) 2 [(22,.bF 22)] 76 [.bF 22] 23:={}
noncomputable abbrev T8:List Item:=[.inRegion (opsOf (iJ 500)) [3,4,5,6,7,8],.code (iJ 501),.code (iJ 63)]
noncomputable abbrev Er:List Item:=[.inRegion (opsOf (iJ 30)) [3],.code (iJ 31)]
theorem aj9:Pc 53 66 Er ([(0,.bF 0),(1,i64 (v 10)),(2,i64 (v 11)),(8,.bF 8),(23,i64 (.lit 1))]) [] [] [] 18 [] [31,32,33] T8 [.bF 0,i64 (v 10),i64 (v 11)] []:={}
theorem aj_:Pc 53 66 Er ([(0,.bF 0),(1,i64 (v 10)),(2,i64 (v 11)),(8,.bF 8),(23,i64 (.lit 2))]) [] [] [] 18 [] [31,32,33] T8 [.bF 0,i64 (v 10),i64 (v 11)] []:={}
theorem aj':dy 66 (opsOf (iJ 500)) 3 [(31,.bF 31),(32,.bF 32),(33,.bF 33)] 77 [.bF 31,.bF 32,.bF 33] 34:={}
theorem aka:Pc 53 66 [.inRegion (opsOf (iJ 500)) [4,5,6,7,8],.code (iJ 501),.code (iJ 63)] ([(34,.tuple [i64 (v 12),i64 (v 13)])]) [] [] [] 11 [] [6] [.code .ret,.code (iJ 63)] [i64 (v 12)] []:={}
noncomputable abbrev vA:List Item:=[.code (iJ 4084),.inLoop (iJ 4084),.inBlock 0,.code (iJ 511)]
theorem akb:Pc 53 66 Er ([(0,.bF 0),(1,i64 (v 10)),(2,i64 (v 11)),(8,.bF 8),(23,i64 (.lit 3))]) [] [] [] 43 [] [0,1,2,8,12,13] vA [.bF 0,i64 (v 10),i64 (.op .add .i64 (v 11) (.lit 1)),.bF 8,i64 (.op .add .i64 (v 11) (.lit 1)),i64 (.lit 0)] []:={}
theorem akc:Pc 53 66 Er ([(0,.bF 0),(1,i64 (v 10)),(2,i64 (v 11)),(8,sA 80 83 81 82),(23,i64 (.lit 4))]) [((.cmp .gtr (.tn (v 81)) (.lit 0)),true)] [] [] 43 [] [0,1,2,8,12,13] vA [.bF 0,i64 (v 10),i64 (.op .add .i64 (v 11) (.lit 1)),sA 80 83 81 82,i64 (.op .add .i64 (v 11) (.lit 1)),i64 (.lit 0)] []:={}
theorem akd:Pc 53 66 Er ([(0,.bF 0),(1,i64 (v 10)),(2,i64 (v 11)),(8,cn),(23,i64 (.lit 4))]) [] [] [] 39 [] [0,1,2,8,12,13] vA [.bF 0,i64 (v 10),i64 (v 11),cn,i64 (v 11),i64 (.lit 0)] []:={}
noncomputable abbrev T9:List (Nat×AV):=[(0,.bF 0),(1,i64 (v 10)),(2,i64 (v 11)),(8,sA 80 83 81 82),(12,i64 (v 14)),(13,i64 (v 15))]
noncomputable abbrev Es:List (AA×AV):=[(eC 80 83 15,i64 (v 16))]
theorem ake:Pc 53 66 vA (T9) (fo 15 81) Es [] 22 [] [0,1,2,8,12,13,54,55,56,57,61,62] [.inRegion (opsOf (iJ 32676)) [9,10,11],.inBlock 1,.code (iJ 16339),.inLoop (iJ 4084),.inBlock 0,.code (iJ 511)] [.bF 0,i64 (v 10),i64 (v 11),sA 80 83 81 82,i64 (v 14),i64 (v 15),i64 (v 14),.bF 0,i64 (v 10),i64 (v 15),i64 (v 16),i64 (v 11)] []:={}
theorem akf:dy 66 (opsOf (iJ 32676)) 9 [(55,.bF 55),(56,.bF 56),(57,.bF 57),(61,.bF 61),(62,.bF 62)] 78 [.bF 55,.bF 56,.bF 57,.bF 61,.bF 62] 63:={}
theorem akg:j7 66 (opsOf (iJ 32676)) 10 [] (.call {callee:=.builtin .max,args:=#[.tmp 54,.tmp 63],argTypes:=#[3,3]}) 3 (some 64):={}
theorem akh:Pc 53 66 [.inRegion (opsOf (iJ 32676)) [11],.inBlock 1,.code (iJ 16339),.inLoop (iJ 4084),.inBlock 0,.code (iJ 511)] ([(0,.bF 0),(1,i64 (v 10)),(2,i64 (v 11)),(8,.bF 8),(13,i64 (v 15)),(64,.bF 12)]) [] [] [] 9 [] [0,1,2,8,12,13] vA [.bF 0,i64 (v 10),i64 (v 11),.bF 8,.bF 12,i64 (.op .add .i64 (v 15) (.lit 1))] []:={}
abbrev O6:List (BE×Bool):=[((.cmp .lss (v 15) (.tn (v 81))),false)]
theorem aki:Pc 53 66 vA (T9) O6 [] [] 15 [] [6] [.code .ret] [i64 (v 14)] []:={}
theorem akj:Pc 53 66 vA ([(0,.bF 0),(1,i64 (v 10)),(2,i64 (v 11)),(8,cn),(12,i64 (v 14)),(13,i64 (.lit 0))]) [] [] [] 15 [] [6] [.code .ret] [i64 (v 14)] []:={}
def Out(f:Nat)(cs:List Frame)(w0:World)(P:Value->World->Prop)(g':Goroutine)(w':World):Prop:=∃fr' v,g'=G fr' cs∧de f fr' w' v∧bA w0 w'∧P v w'
section
variable {w w0:World}{cs:List Frame}{fr:Frame}{fn nt n d:Nat}{todo:List Item}{lA:List (Nat×AV)}{lv:List (Nat×Value)}{bs:List (BE×Bool)}{mem:List (AA×AV)}{post:List (Nat×bQ)}{ks:List Nat}
theorem Pc.out{k:List Item}{a:AV}{Q:Value->World->Prop}(P:Pc fn nt todo lA bs mem [] n ks [d] (.code .ret::k) [a] post)(R:dL fn nt d)(ρ:Env)(hf:FA fn nt todo [] .normal lv fr)(hl:eZ lv (told ρ lA))(hb:cg ρ bs)(hm:cq ρ w mem)(fw:bA w0 w)(hq:∀I B w',bA w w'->Q (a.ev (dc ρ I B)) w'):Goes (G fr cs) w (Out fn cs w0 Q):=by
 refine(P.go ρ hf hl hb hm).trans fun g1 w1 hd=>?_;obtain⟨I,B,bR,rfl,f1,F1,_⟩:=hd;refine(leave1 R F1 (x:=a.ev (dc ρ I B)) (by show gh d [(d,a.ev (dc ρ I B))]=_;unfold gh;rw[Nat.beq_refl];rfl)).mono fun g2 w2 b_=>?_
 obtain⟨cE,rfl,rfl,hL⟩:=b_;exact⟨cE,_,rfl,hL,fw.trans f1,hq I B _ f1⟩
theorem Goes.iY{f:FuncId}{args:Array Value}{Q:Value->World->Prop}(h:∀cs,Goes (G (Frame.enter Tryz.prog f args .normal) cs) w (Out f cs w Q)):dV f args w fun v w'=>bA w w'∧Q v w':=cI fun cs=>(h cs).mono fun g' w' hd=>hd
end
section
variable {w w0:World}{cs:List Frame}{fr:Frame}
theorem oo{op:Int}:dV 76 #[cY op] w fun v w'=>bA w w'∧v=iV (cm op):=by
 have E:=cC W9 rfl (cY op);have no:∀{n:Int},op≠n->(decide (op=n))=false:=fun h=>decide_eq_false h;unfold cm;by_cases h4:op=4
 ·subst h4;exact(aiZ.iY yH (bO [(1,4)] [] []) E rfl ⟨rfl,trivial⟩ trivial).mono fun v w' ⟨f,I,B,e,_⟩=>⟨f,e⟩
 by_cases h5:op=5
 ·subst h5;exact(ai0.iY yH (bO [(1,5)] [] []) E rfl ⟨rfl,rfl,trivial⟩ trivial).mono fun v w' ⟨f,I,B,e,_⟩=>⟨f,e⟩
 by_cases h6:op=6
 ·subst h6;exact(ai1.iY yH (bO [(1,6)] [] []) E rfl ⟨rfl,rfl,rfl,trivial⟩ trivial).mono fun v w' ⟨f,I,B,e,_⟩=>⟨f,e⟩
 by_cases h3:op=3
 ·subst h3;exact(ai2.iY yH (bO [(1,3)] [] []) E rfl ⟨rfl,rfl,rfl,rfl,trivial⟩ trivial).mono fun v w' ⟨f,I,B,e,_⟩=>⟨f,e⟩
 rw[if_neg h4,if_neg h5,if_neg h6,if_neg h3];exact(ai3.iY yH (bO [(1,op)] [] []) E rfl ⟨no h4,no h5,no h6,no h3,trivial⟩ trivial).mono fun v w' ⟨f,I,B,e,_⟩=>⟨f,e⟩
theorem AY{op:Int}:dV 52 #[cY op] w fun v w'=>bA w w'∧v=iV (bV op):=by
 have no:∀{n:Int},op≠n->(decide (op=n))=false:=fun h=>decide_eq_false h;by_cases h1:op=1
 ·subst h1;exact(ai5.iY jv (bO [] [] []) (cC ju rfl (cY 1)) rfl trivial trivial).mono fun v w' ⟨f,I,B,e,_⟩=>⟨f,e⟩
 by_cases h2:op=2
 ·subst h2;exact(ai6.iY jv (bO [] [] []) (cC ju rfl (cY 2)) rfl trivial trivial).mono fun v w' ⟨f,I,B,e,_⟩=>⟨f,e⟩
 by_cases h3:op=3
 ·subst h3;exact(ai7.iY jv (bO [] [] []) (cC ju rfl (cY 3)) rfl trivial trivial).mono fun v w' ⟨f,I,B,e,_⟩=>⟨f,e⟩
 by_cases Gs:op=13
 ·subst Gs;exact(adk.iY jv (bO [] [] []) (cC ju rfl (cY 13)) rfl trivial trivial).mono fun v w' ⟨f,I,B,e,_⟩=>⟨f,e⟩
 by_cases Kx:op=14
 ·subst Kx;exact(adl.iY jv (bO [] [] []) (cC ju rfl (cY 14)) rfl trivial trivial).mono fun v w' ⟨f,I,B,e,_⟩=>⟨f,e⟩
 by_cases NZ:op=15
 ·subst NZ;exact(adm.iY jv (bO [] [] []) (cC ju rfl (cY 15)) rfl trivial trivial).mono fun v w' ⟨f,I,B,e,_⟩=>⟨f,e⟩
 by_cases Rj:op=16
 ·subst Rj;exact(adn.iY jv (bO [] [] []) (cC ju rfl (cY 16)) rfl trivial trivial).mono fun v w' ⟨f,I,B,e,_⟩=>⟨f,e⟩
 by_cases lQ:op=18
 ·subst lQ;exact(ado.iY jv (bO [] [] []) (cC ju rfl (cY 18)) rfl trivial trivial).mono fun v w' ⟨f,I,B,e,_⟩=>⟨f,e⟩
 by_cases h4:op=4
 ·subst h4;exact(ai8.iY jv (bO [] [] []) (cC ju rfl (cY 4)) rfl trivial trivial).mono fun v w' ⟨f,I,B,e,_⟩=>⟨f,e⟩
 by_cases h5:op=5
 ·subst h5;exact(ai9.iY jv (bO [] [] []) (cC ju rfl (cY 5)) rfl trivial trivial).mono fun v w' ⟨f,I,B,e,_⟩=>⟨f,e⟩
 by_cases h6:op=6
 ·subst h6;exact(ai_.iY jv (bO [] [] []) (cC ju rfl (cY 6)) rfl trivial trivial).mono fun v w' ⟨f,I,B,e,_⟩=>⟨f,e⟩
 by_cases h12:op=12
 ·subst h12;exact(adp.iY jv (bO [] [] []) (cC ju rfl (cY 12)) rfl trivial trivial).mono fun v w' ⟨f,I,B,e,_⟩=>⟨f,e⟩
 by_cases h10:op=10
 ·subst h10;exact(adq.iY jv (bO [] [] []) (cC ju rfl (cY 10)) rfl trivial trivial).mono fun v w' ⟨f,I,B,e,_⟩=>⟨f,e⟩
 by_cases h11:op=11
 ·subst h11;exact(adr.iY jv (bO [] [] []) (cC ju rfl (cY 11)) rfl trivial trivial).mono fun v w' ⟨f,I,B,e,_⟩=>⟨f,e⟩
 by_cases sg:op=17
 ·subst sg;exact(ads.iY jv (bO [] [] []) (cC ju rfl (cY 17)) rfl trivial trivial).mono fun v w' ⟨f,I,B,e,_⟩=>⟨f,e⟩
 have e0:bV op=-2:=by simp[bV, *]
 rw[e0];exact(ai'.iY jv (bO [(1,op)] [] []) (cC ju rfl (cY op)) rfl ⟨no h1,no h2,no h3,no Gs,no Kx,no NZ,no Rj,no lQ,no h4,no h5,no h6,no h12,no h10,no h11,no sg,trivial⟩ trivial).mono fun v w' ⟨f,I,B,e,_⟩=>⟨f,e⟩
theorem yJ{b:Nat}:dV 71 #[An b] w fun v w'=>bA w w'∧v=.bool (decide ((b:Int)≥97)&&decide ((b:Int)≤122)):=
 ((Xb (decide ((b:Int)≥97)) (decide ((b:Int)≤122))).iY Xa (bO [(1,b)] [] []) (cC W_ rfl (An b)) rfl ⟨rfl,rfl,trivial⟩ trivial).mono fun v w' ⟨f,I,B,e,_⟩=>⟨f,e⟩
theorem GQ{b:Nat}:dV 90 #[An b] w fun v w'=>bA w w'∧v=.bool (decide ((b:Int)≥48)&&decide ((b:Int)≤57)):=
 ((Xe (decide ((b:Int)≥48)) (decide ((b:Int)≤57))).iY Xd (bO [(1,b)] [] []) (cC Xc rfl (An b)) rfl ⟨rfl,rfl,trivial⟩ trivial).mono fun v w' ⟨f,I,B,e,_⟩=>⟨f,e⟩
theorem Et{b:Nat}:dV 72 #[An b] w fun v w'=>bA w w'∧v=.bool (fM b):=by
 refine Goes.iY fun cs=>?_;obtain⟨ρ,hρ⟩:∃ρ:Env,ρ=bO [(1,b)] [] []:=⟨_,rfl⟩;refine(aja.go ρ (cC Xf rfl (An b)) (by rw[hρ];rfl) trivial trivial).trans fun g1 w1 hd=>?_;obtain⟨I,B,bR,rfl,f1,F1,_⟩:=hd;rw[hρ]at F1;refine(ajb.go (bO [] [] [(3,An b)]) (Q:=fun v w'=>v=.bool (decide ((b:Int)≥97)&&decide ((b:Int)≤122))) F1 rfl fun w' f=>yJ).trans fun g2 w2 b_=>?_;obtain⟨cE,v,rfl,f2,rfl,F2⟩:=b_;have f12:=f1.trans f2;unfold fM;cases e:(decide ((b:Int)≥97)&&decide ((b:Int)≤122))with
 |true=>rw[e]at F2;exact ajc.out yI ρ F2 (by rw[hρ];rfl) trivial trivial f12 fun _ _ _ _=>rfl
 |false=>
  rw[e]at F2;have go:∀{w3:World} {cF:Frame},(decide ((b:Int)≥65)&&decide ((b:Int)≤90))=false->bA w w3->FA 72 21 (.inRegion (opsOf (GN 6)) [12,13,14,15,16,17,18]::[.code .ret]) [] .normal [(0,An b),(13,.bool false),(14,An b)] cF->Goes (G cF cs) w3 (Out 72 cs w fun v w'=>v=.bool (false||decide ((b:Int)≥65)&&decide ((b:Int)≤90)||decide ((b:Int)≥48)&&decide ((b:Int)≤57)||decide ((b:Int)=95))):=fun{w3 cF} h f3 F3=>by
   refine(ajg.go (bO [] [] [(14,An b)]) (Q:=fun v w'=>v=.bool (decide ((b:Int)≥48)&&decide ((b:Int)≤57))) F3 rfl fun w' f=>GQ).trans fun g4 w4 dh=>?_;obtain⟨eO,v,rfl,f4,rfl,F4⟩:=dh;rw[h];cases e2:(decide ((b:Int)≥48)&&decide ((b:Int)≤57))with
   |true=>rw[e2]at F4;exact ajh.out yI ρ F4 (by rw[hρ];rfl) trivial trivial (f3.trans f4) fun _ _ _ _=>rfl
   |false=>
    rw[e2]at F4;cases e3:decide ((b:Int)=95)with
    |true=>exact aji.out yI ρ F4 (by rw[hρ];rfl) ⟨by rw[hρ];exact e3,trivial⟩ trivial (f3.trans f4) fun _ _ _ _=>rfl
    |false=>exact ajj.out yI ρ F4 (by rw[hρ];rfl) ⟨by rw[hρ];exact e3,trivial⟩ trivial (f3.trans f4) fun _ _ _ _=>rfl
  cases h1:decide ((b:Int)≥65)with
  |false=>refine(ajf.go ρ F2 (by rw[hρ];rfl) ⟨by rw[hρ];exact h1,trivial⟩ trivial).trans fun g3 w3 cv=>?_;obtain⟨I,B,cF,rfl,f3,F3,_⟩:=cv;rw[hρ]at F3;rw[h1]at go;exact go rfl (f12.trans f3) F3
  |true=>
   cases h2:decide ((b:Int)≤90)with
   |true=>exact ajd.out yI ρ F2 (by rw[hρ];rfl) ⟨by rw[hρ];exact h1,by rw[hρ];exact h2,trivial⟩ trivial f12 fun _ _ _ _=>rfl
   |false=>refine(aje.go ρ F2 (by rw[hρ];rfl) ⟨by rw[hρ];exact h1,by rw[hρ];exact h2,trivial⟩ trivial).trans fun g3 w3 cv=>?_;obtain⟨I,B,cF,rfl,f3,F3,_⟩:=cv;rw[hρ]at F3;rw[h1,h2]at go;exact go rfl (f12.trans f3) F3
end
noncomputable abbrev NmH:List Item:=Eo
noncomputable abbrev NmW:List Item:=AU
noncomputable abbrev FdH:List Item:=AW
noncomputable abbrev BhH:List Item:=ru
noncomputable abbrev KiH:List Item:=AX
noncomputable abbrev KiT:List Item:=Xm
theorem adz{ρ:Env}{a b:Nat}{x y:ByteArray}(ha:ρ.s a=x)(hb:ρ.s b=y):(BE.seq false (.var a) (.var b)).ev ρ=(x==y):=by rw[xj,<-ha,<-hb];rfl
section
variable {w w0:World}{cs:List Frame}{fr:Frame}
theorem GR:dV 73 #[] w fun v w'=>bA w w'∧∃A,v=bS A 0 11 11∧∀i p,jy[i]?=some p->w'.cell? ⟨A,i,none⟩=some (.string p.1):=
 (ajk.iY Xh (bO [] [] []) (BF Xg) rfl trivial trivial).mono fun v w' ⟨f,I,B,e,bl,_⟩=>⟨f,_,e,fun i p hp=>bG (cs:=jy.map fun p=>.string p.1) bl.1.2 (by rw[aL,hp];rfl)⟩
theorem IT{s:ByteArray}{A:Nat}(hc:∀i p,jy[i]?=some p->w0.cell? ⟨A,i,none⟩=some (.string p.1)):
  ∀(r:List (ByteArray×Bool)) (i:Nat) {w:World} {fr:Frame},jy.drop i=r->bA w0 w->i≤11->FA 49 44 NmW [] .normal [(0,.string s),(4,bS A 0 11 11),(5,iV i)] fr->
  Goes (G fr cs) w (Out 49 cs w0 fun v w'=>v=.bool (r.all fun p=>!(s==p.1)))
 |[],i,w,fr,hr,fw,hi,hf=>by have hlen:jy.length≤i:=aW.1 hr;have:jy.length=11:=rfl;exact ajA.out uQ (Go.Proofs.YtmobbajggkjpgaaGreat.SX.iS [(10,i),(81,11),(82,11),(83,0)] [(80,A)] [] [(1,s)]) hf rfl ⟨decide_eq_false (by show ¬((i:Int)<11);omega),trivial⟩ trivial fw fun _ _ _ _=>rfl
 |p::r,i,w,fr,hr,fw,hi,hf=>by
  obtain⟨hp,wu,hlt⟩:=dM hr;have:jy.length=11:=rfl;obtain⟨ρ,hρ⟩:∃ρ:Env,ρ=Go.Proofs.YtmobbajggkjpgaaGreat.SX.iS [(10,i),(81,11),(82,11),(83,0)] [(80,A)] [] [(1,s),(2,p.1)]:=⟨_,rfl⟩;have bb:=bX (ρ:=ρ) (i:=10) (n:=81) (I:=i) (N:=11) (by rw[hρ];rfl) (by rw[hρ];rfl) (by omega);have mm:cq ρ w OZ:=by rw[hρ];refine⟨?_,trivial⟩;show w.cell? ⟨A,0+i,none⟩=_;rw[aF];exact fw.cell (hc i p hp)
  have hb:(BE.seq false (.var 2) (.var 1)).ev ρ=(s==p.1):=by rw[adz (x:=p.1) (y:=s) (by rw[hρ];rfl) (by rw[hρ];rfl),El,El];exact decide_eq_decide.2 ⟨fun h=>h.symm,fun h=>h.symm⟩
  rw[List.all_cons];cases e:s==p.1 with
  |true=>exact ajy.out uQ ρ hf (by rw[hρ];rfl) (cg.app bb ⟨by rw[hb,e],trivial⟩) mm fw fun _ _ _ _=>rfl
  |false=>refine(ajz.go ρ hf (by rw[hρ];rfl) (cg.app bb ⟨by rw[hb,e],trivial⟩) mm).trans fun g1 w1 hd=>?_;obtain⟨I,B,bR,rfl,f1,F1,_⟩:=hd;rw[hρ]at F1;refine IT hc r (i+1) wu (fw.trans f1) (by omega) ?_;rw[<-inc (i:=i) (by omega)];exact F1
theorem GS(s:ByteArray):(fu s jy).isNone=jy.all fun p=>!(s==p.1):=by
 have:∀l:List (ByteArray×Bool),(fu s l).isNone=l.all fun p=>!(s==p.1):=fun l=>by
  induction l with
  |nil=>rfl
  |cons p l ih=>
   unfold fu at ih⊢;rw[List.find?_cons,List.all_cons];cases e:s==p.1 with
   |true=>rfl
   |false=>exact ih
 exact this _
theorem Eu{s:ByteArray}(hs:s.size≤32):∀(m j:Nat) {w:World} {fr:Frame},j+m=s.size->bA w0 w->FA 49 44 NmH [] .normal [(0,.string s),(3,iV j)] fr->
  Goes (G fr cs) w (Out 49 cs w0 fun v w'=>v=.bool ((List.range m).all (fun i=>fM (c6 s (j+i)))&&(fu s jy).isNone))
 |0,j,w,fr,hj,fw,hf=>by refine(ajv.go (Go.Proofs.YtmobbajggkjpgaaGreat.SX.iS [(6,j)] [] [] [(1,s)]) hf rfl ⟨decide_eq_false (by show ¬((j:Int)<((s.size:Nat):Int));omega),trivial⟩ trivial).trans fun g1 w1 hd=>?_;obtain⟨I,B,bR,rfl,f1,F1,_⟩:=hd;refine(ajw.go (bO [] [] []) (Q:=fun v w'=>∃A,v=bS A 0 11 11∧∀i (p:ByteArray×Bool),jy[i]?=some p->w'.cell? ⟨A,i,none⟩=some (.string p.1)) F1 rfl fun w' f=>GR).trans fun g2 w2 b_=>?_;obtain⟨cE,v,rfl,f2,⟨A,rfl,hc⟩,F2⟩:=b_;refine(ajx.go (Go.Proofs.YtmobbajggkjpgaaGreat.SX.iS [] [] [(31,bS A 0 11 11)] [(1,s)]) F2 rfl trivial trivial).trans fun g3 w3 cv=>?_;obtain⟨I,B,cF,rfl,f3,F3,_⟩:=cv;refine(IT (w0:=w3) (fun i p hp=>f3.cell (hc i p hp)) jy 0 rfl (bA.refl _) (by omega) F3).mono fun g4 w4 dh=>?_;obtain⟨eO,v,rfl,hL,f4,rfl⟩:=dh;exact⟨eO,_,rfl,hL,fw.trans (f1.trans (f2.trans (f3.trans f4))),by rw[GS];rfl⟩
 |m+1,j,w,fr,hj,fw,hf=>by
  refine(ajq.go (Go.Proofs.YtmobbajggkjpgaaGreat.SX.iS [(6,j)] [] [] [(1,s)]) hf rfl ⟨decide_eq_true (by show((j:Int)<((s.size:Nat):Int));omega),trivial⟩ trivial).trans fun g1 w1 hd=>?_;obtain⟨I,B,bR,rfl,f1,F1,_⟩:=hd;refine(tG (s:=s) (j:=j) ajr (bO [] [] []) F1 (by decide) rfl (by omega) fun tm ir=>⟨ir 26 _ rfl,ir 27 _ rfl⟩).trans fun g2 w2 b_=>?_;obtain⟨cE,rfl,rfl,F2⟩:=b_;refine(ajs.go (bO [] [] [(28,An (c6 s j))]) (Q:=fun v w'=>v=.bool (fM (c6 s j))) F2 rfl fun w' f1=>Et).trans fun g3 w3 cv=>?_;obtain⟨cF,v,rfl,f3,rfl,F3⟩:=cv;have hsplit:(List.range (m+1)).all (fun i=>fM (c6 s (j+i)))=(fM (c6 s j)&&(List.range m).all fun i=>fM (c6 s (j+1+i))):=by rw[List.range_succ_eq_map,List.all_cons,List.all_map];congr 1;refine congrArg (List.all _) (funext fun i=>?_);show fM (c6 s (j+(i+1)))=_;rw[show j+(i+1)=j+1+i by omega]
  rw[hsplit];cases e:fM (c6 s j)with
  |false=>rw[e]at F3;exact aju.out uQ (Go.Proofs.YtmobbajggkjpgaaGreat.SX.iS [(6,j)] [] [] [(1,s)]) F3 rfl trivial trivial (fw.trans (f1.trans f3)) fun _ _ _ _=>rfl
  |true=>rw[e]at F3;refine(ajt.go (Go.Proofs.YtmobbajggkjpgaaGreat.SX.iS [(6,j)] [] [] [(1,s)]) F3 rfl trivial trivial).trans fun g4 w4 dh=>?_;obtain⟨I,B,eO,rfl,f4,F4,_⟩:=dh;refine Eu hs m (j+1) (by omega) (fw.trans (f1.trans (f3.trans f4))) ?_;rw[<-inc (i:=j) (by omega)];exact F4
theorem K4{s:ByteArray}:dV 49 #[.string s] w fun v w'=>bA w w'∧v=.bool (gz s):=by
 refine Goes.iY fun cs=>?_;have E:=cC Xi rfl (.string s);by_cases h1:s.size<1
 ·refine ajl.out uQ (Go.Proofs.YtmobbajggkjpgaaGreat.SX.iS [] [] [] [(1,s)]) E rfl ⟨decide_eq_true (by show((s.size:Nat):Int)<1;omega),trivial⟩ trivial (bA.refl _) fun _ _ _ _=>?_;unfold gz;rw[decide_eq_false (by omega:¬1≤s.size)];rfl
 by_cases h2:s.size>32
 ·refine ajm.out uQ (Go.Proofs.YtmobbajggkjpgaaGreat.SX.iS [] [] [] [(1,s)]) E rfl ⟨decide_eq_false (by show ¬((s.size:Nat):Int)<1;omega),decide_eq_true (by show((s.size:Nat):Int)>32;omega),trivial⟩ trivial (bA.refl _) fun _ _ _ _=>?_;unfold gz;rw[decide_eq_false (by omega:¬s.size≤32),Bool.and_false];rfl
 refine(ajn.go (Go.Proofs.YtmobbajggkjpgaaGreat.SX.iS [] [] [] [(1,s)]) E rfl ⟨decide_eq_false (by show ¬((s.size:Nat):Int)<1;omega),decide_eq_false (by show ¬((s.size:Nat):Int)>32;omega),trivial⟩ trivial).trans fun g1 w1 hd=>?_;obtain⟨I,B,bR,rfl,f1,F1,_⟩:=hd;refine(tG (s:=s) (j:=0) ajo (bO [] [] []) F1 (by decide) rfl (by omega) fun tm ir=>⟨ir 15 _ rfl,rfl⟩).trans fun g2 w2 b_=>?_;obtain⟨cE,rfl,rfl,F2⟩:=b_;refine(ajp.go (bO [] [] [(16,An (c6 s 0))]) (Q:=fun v w'=>v=.bool (decide (((c6 s 0:Nat):Int)≥97)&&decide (((c6 s 0:Nat):Int)≤122))) F2 rfl fun w' f1=>yJ).trans fun g3 w3 cv=>?_;obtain⟨cF,v,rfl,f3,rfl,F3⟩:=cv;have hok:gz s=((decide (((c6 s 0:Nat):Int)≥97)&&decide (((c6 s 0:Nat):Int)≤122))&&((List.range s.size).all (fun i=>fM (c6 s i))&&(fu s jy).isNone)):=by
  unfold gz;rw[decide_eq_true (by omega:1≤s.size),decide_eq_true (by omega:s.size≤32),Bool.true_and,Bool.true_and,Bool.and_assoc];congr 1;congr 1
  ·exact decide_eq_decide.2 ⟨fun h=>by omega,fun h=>by omega⟩
  ·exact decide_eq_decide.2 ⟨fun h=>by omega,fun h=>by omega⟩
 rw[hok];cases e:(decide (((c6 s 0:Nat):Int)≥97)&&decide (((c6 s 0:Nat):Int)≤122))with
 |false=>rw[e]at F3;exact adt.out uQ (Go.Proofs.YtmobbajggkjpgaaGreat.SX.iS [] [] [] [(1,s)]) F3 rfl trivial trivial (f1.trans f3) fun _ _ _ _=>rfl
 |true=>rw[e]at F3;refine(adu.go (Go.Proofs.YtmobbajggkjpgaaGreat.SX.iS [] [] [] [(1,s)]) F3 rfl trivial trivial).trans fun g4 w4 dh=>?_;obtain⟨I,B,eO,rfl,f4,F4,_⟩:=dh;refine(Eu (s:=s) (w0:=w) (by omega) s.size 0 (by omega) (f1.trans (f3.trans f4)) F4).mono fun g5 w5 eg=>?_;obtain⟨gn,v,h1,h2,h3,rfl⟩:=eg;refine⟨gn,_,h1,h2,h3,?_⟩;rw[Bool.true_and];simp only[aF]
def oq(s:ByteArray):Nat->List cx->Int
 |_,[]=>-1
 |i,x::r=>if x.name==s then i else oq s (i+1) r
theorem GU(L:List cx)(s:ByteArray):yG L s=oq s 0 L:=by
 have:∀(L:List cx) (i:Nat),oq s i L=match L.findIdx? (fun x=>x.name==s)with
   |some j=>((i+j:Nat):Int)
   |none=>-1:=fun L=>by
  induction L with
  |nil=>intro i;rfl
  |cons x L ih=>
   intro i;unfold oq;rw[List.findIdx?_cons];cases e:x.name==s with
   |true=>rfl
   |false=>
    rw[if_neg (by decide),ih (i+1)];cases L.findIdx? (fun x=>x.name==s)with
    |none=>rfl
    |some j=>show((i+1+j:Nat):Int)=((i+(j+1):Nat):Int);omega
 rw[this];unfold yG;cases L.findIdx? (fun x=>x.name==s)with
 |none=>rfl
 |some j=>simp
theorem IU{z:Bool}{A o c X:Nat}{L:List cx}{s:ByteArray}{os:Value}(hz:z=true->L=[])(hel:∀i x,L[i]?=some x->og w0 A (o+i*3) x)(hX:w0.cell? ⟨X,0,none⟩=some (ew z A o L.length c))(hlen:L.length≤1000000):
  ∀(r:List cx) (i:Nat) {w:World} {fr:Frame},L.drop i=r->bA w0 w->i≤L.length->FA 50 22 FdH [] .normal [(1,.string s),(2,bK X),(5,iV i)] fr->
  Goes (G fr cs) w (Out 50 cs w0 fun v w'=>v=iV (oq s i r))
 |[],i,w,fr,hr,fw,hi,hf=>by
  have Gn:L.length≤i:=aW.1 hr;obtain⟨ρ,hρ⟩:∃ρ:Env,ρ=Go.Proofs.YtmobbajggkjpgaaGreat.SX.iS [(51,L.length),(52,c),(53,o),(10,i)] [(50,A),(64,X)] [] [(1,s)]:=⟨_,rfl⟩;have e0:(dO z 51).ev ρ=(L.length:Int):=by
   rw[hρ];cases z with
   |false=>rfl
   |true=>rw[hz rfl];rfl
  refine(ajE z).out O0 ρ hf (by rw[hρ];rfl) ⟨?_,trivial⟩ ⟨?_,trivial⟩ fw fun _ _ _ _=>rfl
  ·show decide (ρ.i 10<(dO z 51).ev ρ)=false;rw[e0,hρ];exact decide_eq_false (by show ¬((i:Int)<(L.length:Int));omega)
  ·refine(show w.cell? ((⟨.dyn 64,.lit 0⟩:AA).ev ρ)=some (ew z A o L.length c)from ?_).trans (congrArg some ?_)
   ·rw[hρ];exact fw.cell hX
   ·rw[hρ];cases z<;>rfl
 |x::r,i,w,fr,hr,fw,hi,hf=>by
  obtain⟨hx,wu,hlt⟩:=dM hr;obtain rfl:z=false:=by
   cases z with
   |false=>rfl
   |true=>rw[hz rfl]at hlt;simp at hlt
  obtain⟨ts,a0,_⟩:=(hel i x hx).ex;obtain⟨ρ,hρ⟩:∃ρ:Env,ρ=Go.Proofs.YtmobbajggkjpgaaGreat.SX.iS [(51,L.length),(52,c),(53,o),(10,i)] [(50,A),(64,X)] [] [(1,s),(2,x.name)]:=⟨_,rfl⟩;have bb:=bX (ρ:=ρ) (i:=10) (n:=51) (I:=i) (N:=L.length) (by rw[hρ];rfl) (by rw[hρ];rfl) hlt;have mm:cq ρ w O1:=by rw[hρ];exact⟨fw.cell hX,fw.cell a0,trivial⟩
  have hb:=adz (ρ:=ρ) (a:=2) (b:=1) (x:=x.name) (y:=s) (by rw[hρ];rfl) (by rw[hρ];rfl);unfold oq;cases e:x.name==s with
  |true=>refine ajC.out O0 ρ hf (by rw[hρ];rfl) (cg.app bb ⟨by rw[hb,e],trivial⟩) mm fw fun _ _ _ _=>?_;rw[hρ];rfl
  |false=>refine(ajD.go ρ hf (by rw[hρ];rfl) (cg.app bb ⟨by rw[hb,e],trivial⟩) mm).trans fun g1 w1 hd=>?_;obtain⟨I,B,bR,rfl,f1,F1,_⟩:=hd;rw[hρ]at F1;refine IU (c:=c) (os:=os) hz hel hX hlen r (i+1) wu (fw.trans f1) (by omega) ?_;rw[<-inc (i:=i) (by omega)];exact F1
theorem K5{ls os:Value}{L:List cx}{s:ByteArray}(hl:nN w ls L)(hlen:L.length≤1000000):dV 50 #[.agg #[ls,os],.string s] w fun v w'=>bA w w'∧v=iV (yG L s):=by
 obtain⟨z,A,o,c,hls,hz,oU,hel⟩:=hl.ex;refine Goes.iY fun cs=>?_;obtain⟨ρ,hρ⟩:∃ρ:Env,ρ=Go.Proofs.YtmobbajggkjpgaaGreat.SX.iS [(51,L.length),(52,c),(53,o)] [(50,A)] [(9,os)] [(1,s)]:=⟨_,rfl⟩;refine((ajB z).go ρ (dU Xj rfl (.agg #[ls,os]) (.string s)) (by rw[hρ,hls];cases z<;>rfl) trivial trivial).trans fun g1 w1 hd=>?_;obtain⟨I,B,bR,rfl,f1,F1,bl,_⟩:=hd;have hX:w1.cell? ⟨B 100,0,none⟩=some (ew z A o L.length c):=by have:=bl.1.2;rw[hρ]at this;cases z<;>exact bG this (i:=0) rfl
 rw[GU];refine(IU (w0:=w1) (os:=os) (X:=B 100) hz (fun i x hi=>(hel i x hi).keep f1) hX hlen L 0 rfl (bA.refl _) (by omega) (by rw[hρ]at F1;exact F1)).mono fun g2 w2 b_=>?_;obtain⟨cE,v,rfl,hL,f2,rfl⟩:=b_;exact⟨cE,_,rfl,hL,f1.trans f2,rfl⟩
def qK(l:List Nd)(i k:Nat):Int:=match qg l.length k (l.drop i)with
 |some r=>(l.length:Int)-(r.length:Int)
 |none=>-1
theorem IV{A o c:Nat}{l:List Nd}(hel:∀i n,l[i]?=some n->iI w0 A (o+i*4) n)(hl:l.length≤1000000):
  ∀(r:List Nd) (i k:Nat) {w:World} {fr:Frame},l.drop i=r->i≤l.length->k≤1+i*1000000->bA w0 w->FA 74 45 BhH [] .normal [(0,bS A o l.length c),(1,iV i),(5,iV k)] fr->
  Goes (G fr cs) w (Out 74 cs w0 fun v w'=>v=iV (qK l i k))
 |r,i,0,w,fr,hr,hi,hk,fw,hf=>by
  refine(ajI false).out uR (bO [(51,l.length),(52,c),(53,o),(10,i),(11,0)] [(50,A)] []) hf rfl ⟨rfl,trivial⟩ trivial fw fun _ _ _ _=>?_;have:qK l i 0=i:=by
   unfold qK;have e:qg l.length 0 (l.drop i)=some (l.drop i):=by cases l.drop i<;>rfl
   rw[e];dsimp only;rw[br];omega
  rw[this];rfl
 |[],i,k+1,w,fr,hr,hi,hk,fw,hf=>by have Gn:l.length≤i:=aW.1 hr;obtain⟨ρ,hρ⟩:∃ρ:Env,ρ=bO [(51,l.length),(52,c),(53,o),(10,i),(11,(k+1:Nat))] [(50,A)] []:=⟨_,rfl⟩;refine(adx false).out uR ρ hf (by rw[hρ];rfl) ⟨by rw[hρ];exact decide_eq_true (by show((k+1:Nat):Int)>0;omega),by rw[hρ];exact decide_eq_false (by show ¬((i:Int)<0);omega),by rw[hρ];exact decide_eq_true (by show(i:Int)≥((l.length:Nat):Int);omega),trivial⟩ trivial fw fun _ _ _ _=>?_;unfold qK;rw[hr];rfl
 |n::r,i,k+1,w,fr,hr,hi,hk,fw,hf=>by
  obtain⟨hn,wu,hlt⟩:=dM hr;have iK:=(hel i n hn).keep fw;obtain⟨ρ,hρ⟩:∃ρ:Env,ρ=bO [(51,l.length),(52,c),(53,o),(10,i),(11,(k+1:Nat)),(12,n.kids)] [(50,A)] []:=⟨_,rfl⟩;have bb:=bX (ρ:=ρ) (i:=10) (n:=51) (I:=i) (N:=l.length) (by rw[hρ];rfl) (by rw[hρ];rfl) hlt;have mm:cq ρ w IP:=by rw[hρ];exact⟨iK.c2,trivial⟩
  have b0:(BE.cmp .gtr (v 11) (.lit 0)).ev ρ=true:=by rw[hρ];exact decide_eq_true (by show((k+1:Nat):Int)>0;omega)
  have hb:qK l i (k+1)=if n.kids<0∨n.kids>l.length then-1 else qK l (i+1) (k+n.kids.toNat):=by
   unfold qK;rw[hr,wu]
   conv=>lhs;unfold qg
   by_cases h:n.kids<0∨n.kids>l.length
   ·rw[if_pos h,if_pos h]
   ·rw[if_neg h,if_neg h]
  rw[hb];by_cases h1:n.kids<0
  ·rw[if_pos (.inl h1)];exact ajG.out uR ρ hf (by rw[hρ];rfl) ⟨b0,cg.app bb ⟨by rw[hρ];exact decide_eq_true h1,trivial⟩⟩ mm fw fun _ _ _ _=>rfl
  by_cases h2:n.kids>l.length
  ·rw[if_pos (.inr h2)];exact ajH.out uR ρ hf (by rw[hρ];rfl) ⟨b0,cg.app bb ⟨by rw[hρ];exact decide_eq_false h1,by rw[hρ];exact decide_eq_true h2,trivial⟩⟩ mm fw fun _ _ _ _=>rfl
  rw[if_neg (by omega)];refine(ajF.go ρ hf (by rw[hρ];rfl) ⟨b0,cg.app bb ⟨by rw[hρ];exact decide_eq_false h1,by rw[hρ];exact decide_eq_false h2,trivial⟩⟩ mm).trans fun g1 w1 hd=>?_;obtain⟨I,B,bR,rfl,f1,F1,_⟩:=hd;rw[hρ]at F1;have e5:iz .add .i64 (iz .sub .i64 ((k+1:Nat):Int) 1) n.kids=((k+n.kids.toNat:Nat):Int):=by
   show IntKind.wrap .i64 (IntKind.wrap .i64 (((k+1:Nat):Int)-1)+n.kids)=_;have hi':i*1000000≤1000000000000:=by omega
   rw[iT (x:=((k+1:Nat):Int)-1) (by omega),iT (by omega)];omega
  refine IV (c:=c) hel hl r (i+1) (k+n.kids.toNat) wu (by omega) (by omega) (fw.trans f1) ?_;rw[<-e5,<-inc (i:=i) (by omega)];exact F1
theorem vB{s:Value}{l:List Nd}{i:Nat}(h:cK w s l)(hl:l.length≤1000000)(hi:i≤l.length):dV 74 #[s,iV i] w fun v w'=>bA w w'∧v=iV (qK l i 1):=by
 refine Goes.iY fun cs=>?_;rcases h.ex with⟨rfl,rfl⟩|⟨A,o,c,rfl,hc,hel⟩
 ·obtain rfl:i=0:=by simpa using hi
  refine((adw true).go (bO [(10,0)] [] []) (dU GO rfl eH (iV 0)) rfl trivial trivial).trans fun g1 w1 hd=>?_;obtain⟨I,B,bR,rfl,f1,F1,_⟩:=hd;exact(adx true).out uR (bO [(10,0),(11,1)] [] []) F1 rfl ⟨rfl,rfl,rfl,trivial⟩ trivial f1 fun _ _ _ _=>rfl
 ·refine((adw false).go (bO [(51,l.length),(52,c),(53,o),(10,i)] [(50,A)] []) (dU GO rfl (bS A o l.length c) (iV i)) rfl trivial trivial).trans fun g1 w1 hd=>?_;obtain⟨I,B,bR,rfl,f1,F1,_⟩:=hd;exact IV hel hl (l.drop i) i 1 rfl hi (by omega) f1 F1
theorem RU{A o c cj base i k:Nat}{tree:List Nd}{n:Nd}{s:Value}{l:List Int}(hb:base≤w.heap.size)(hs:c7 w base s l)(hl:l.length≤1000000)(hi:(i:Int)<n.kids)(hat:cj<tree.length)(iK:iI w A (o+cj*4) n)(hAb:∀B c',s=bS B 0 l.length c'->B≠A)(hf:FA 75 27 KiH [] .normal [(0,bS A o tree.length c),(1,iV cj),(5,s),(6,iV k),(7,iV i)] fr):
  Goes (G fr cs) w fun g' w'=>∃fr' s',g'=G fr' cs∧bU (fun x=>base≤x) w w'∧c7 w' base s' (l++[(k:Int)])∧FA 75 27 KiT [] .normal [(0,bS A o tree.length c),(1,iV cj),(5,s'),(7,iV i),(23,bS A o tree.length c),(24,iV k)] fr':=by
 rcases hs with⟨rfl,rfl⟩|⟨hne,B0,c0,rfl,LQ,hv⟩
 ·obtain⟨ρ,hρ⟩:∃ρ:Env,ρ=bO [(51,tree.length),(54,c),(53,o),(10,cj),(11,k),(13,n.kids),(9,i)] [(50,A)] []:=⟨_,rfl⟩;refine(ady.go ρ hf (by rw[hρ];rfl) (cg.app (bX (i:=10) (n:=51) (I:=cj) (N:=tree.length) (by rw[hρ];rfl) (by rw[hρ];rfl) hat) ⟨by rw[hρ];exact decide_eq_true hi,trivial⟩) ⟨by rw[hρ];exact iK.c2,trivial⟩).mono fun g1 w1 hd=>?_;obtain⟨I,B,bR,rfl,f1,F1,bl,_⟩:=hd;rw[hρ]at F1 bl;exact⟨bR,_,rfl,f1.mono fun x hx=>ax hb hx,.inr ⟨by simp,B 101,(I 101).toNat,rfl,ax hb bl.1.1,bl.1.2⟩,F1⟩
 ·obtain⟨ρ,hρ⟩:∃ρ:Env,ρ=bO [(51,tree.length),(54,c),(53,o),(10,cj),(11,k),(13,n.kids),(9,i),(8,l.length),(57,c0)] [(50,A),(52,B0)] [(65,.agg (l.map iV).toArray)]:=⟨_,rfl⟩;have NB:ρ.b 52=B0:=by rw[hρ];rfl
  refine(ajK.Df ρ hf (by rw[hρ];rfl) (cg.app (bX (i:=10) (n:=51) (I:=cj) (N:=tree.length) (by rw[hρ];rfl) (by rw[hρ];rfl) hat) ⟨by rw[hρ];exact decide_eq_true hi,by rw[hρ];show decide ((((l.length:Int).toNat:Nat):Int)+1≤1048576)=true;exact decide_eq_true (by omega),trivial⟩) ⟨by rw[hρ];exact iK.c2,trivial⟩ (fun q hq x hx=>?_) ⟨⟨.vec 3 c0 (l.map iV),by rw[NB];exact hv,rfl,by rw[hρ];rfl,fun inf rS=>?_,(nofun),by rw[hρ];rfl⟩,trivial⟩ eS).mono fun g1 w1 hd=>?_
  ·obtain rfl:=ah.1 hx;obtain rfl:=ah.1 hq;show ρ.b 52≠ρ.b 50;rw[NB,hρ];exact hAb B0 c0 rfl
  ·rw[yb inf rS,aD,hρ];show l.length=((l.length:Nat):Int).toNat*1;omega
  obtain⟨I,B,bR,rfl,kp,F1,bl,_⟩:=hd;have own:∀x,k_ ρ w vj x->base≤x:=fun x hx=>by
   rcases hx with h|⟨y,hy,e⟩
   ·exact ax hb h
   ·obtain rfl:=ah.1 hy;have e:ρ.b 52=x:=e;omega
  have hB:(cy.vec 3 (I 101).toNat ((l++[(k:Int)]).map iV)).at Tryz.prog w1 (B 101):=by have:=bl.1.2;rw[hρ]at this;rw[bu];exact this
  have hn:((((l.length:Int).toNat:Nat):Int)+1).toNat=(l++[(k:Int)]).length:=by rw[an,bp];omega
  refine⟨bR,bS (B 101) 0 (l++[(k:Int)]).length (I 101).toNat,rfl,kp.mono own,.inr ⟨by simp,B 101,(I 101).toNat,rfl,own _ bl.1.1,hB⟩,?_⟩;rw[<-hn];rw[hρ]at F1;exact F1
theorem IW{tree:List Nd}{A o c cj:Nat}{n:Nd}(hel:∀i n,tree[i]?=some n->iI w0 A (o+i*4) n)(htc:tree.length≤c)(hl:tree.length≤1000000)(hn:tree[cj]?=some n)(hk:n.kids≤1000000):
  ∀(ts:List T) (i k:Nat) {rest:List Nd} {l:List Int} {s:Value} {w:World} {fr:Frame},(i:Int)+ts.length=n.kids->l.length=i->o9 ts->tree.drop k=bY ts++rest->k≤tree.length->bA w0 w->c7 w w0.heap.size s l->FA 75 27 KiH [] .normal [(0,bS A o tree.length c),(1,iV cj),(5,s),(6,iV k),(7,iV i)] fr->
  Goes (G fr cs) w fun g' w'=>∃fr' s',g'=G fr' cs∧bA w0 w'∧c7 w' w0.heap.size s' (l++(fX k ts).map Int.ofNat)∧de 75 fr' w' s'
 |[],i,k,rest,l,s,w,fr,hi,Gn,hwf,hd,W8,fw,hs,hf=>by have hat:=(ak.1 hn).1;obtain⟨ρ,hρ⟩:∃ρ:Env,ρ=bO [(51,tree.length),(54,c),(53,o),(10,cj),(11,k),(13,n.kids),(9,i)] [(50,A)] [(5,s)]:=⟨_,rfl⟩;refine(ajN.go ρ hf (by rw[hρ];rfl) (cg.app (bX (i:=10) (n:=51) (I:=cj) (N:=tree.length) (by rw[hρ];rfl) (by rw[hρ];rfl) hat) ⟨by rw[hρ];exact decide_eq_false (by show ¬((i:Int)<n.kids);simp only[aX]at hi;omega),trivial⟩) ⟨by rw[hρ];exact fw.cell (hel cj n hn).c2,trivial⟩).trans fun g1 w1 hd=>?_;obtain⟨I,B,bR,rfl,f1,F1,_⟩:=hd;rw[hρ]at F1;refine(leave1 Xl F1 rfl).mono fun g2 w2 b_=>?_;obtain⟨cE,rfl,rfl,hL⟩:=b_;refine⟨cE,s,rfl,fw.trans f1,?_,hL⟩;simp only[fX,List.map_nil,aV];exact hs.keep f1
 |t::ts,i,k,rest,l,s,w,fr,hi,Gn,hwf,hd,W8,fw,hs,hf=>by
  simp only[aC]at hi;have hat:=(ak.1 hn).1;have hA:A<w0.heap.size:=j5 (hel cj n hn).c0;refine(RU fw.size hs (by omega) (by omega) hat ((hel cj n hn).keep fw) (fun B c' e=>by
   rcases hs with⟨h1,h2⟩|⟨h1,B',c2,h2,h3,h4⟩
   ·rw[h1]at e;cases e
   ·have:B'=B:=lZ (h2.symm.trans e);omega) hf).trans fun g1 w1 oV=>?_
  obtain⟨bR,s1,rfl,kp,hs1,F1⟩:=oV;have Dr:=cw fw kp;have hd':tree.drop k=flat t++(bY ts++rest):=by rw[hd];simp[bY]
  have akk:qK tree k 1=((k+(flat t).length:Nat):Int):=by
   unfold qK;have hle:(flat t).length≤tree.length:=by have:=congrArg aR hd';rw[an,br]at this;omega
   have:=wz (tot:=tree.length) _ [t] (bY ts++rest) rfl ⟨hwf.1,trivial⟩ (by simp only[bY,aV];exact hle);simp only[bY,aV,bp]at this;rw[hd',this];dsimp only;have h2:=congrArg aR hd';rw[an,br]at h2;omega
  refine(ajL.go (bO [] [] [(23,bS A o tree.length c),(24,iV k)]) (Q:=fun v w'=>v=iV ((k+(flat t).length:Nat):Int)) F1 rfl fun w' f2=>(vB (s:=bS A o tree.length c) (l:=tree) ⟨.inr ⟨A,o,c,rfl,htc,fun i n hi=>(hel i n hi).keep (Dr.trans f2)⟩⟩ hl W8).mono fun v w2 hd=>⟨hd.1,by rw[hd.2,akk]⟩).trans fun g2 w2 b_=>?_;obtain⟨cE,vv,rfl,f2,rfl,F2⟩:=b_;refine(ajM.go (bO [(10,cj),(9,i),(12,(k+(flat t).length:Nat))] [] [(0,bS A o tree.length c),(5,s1)]) F2 rfl trivial trivial).trans fun g3 w3 cv=>?_;obtain⟨I,B,cF,rfl,f3,F3,_⟩:=cv;have Gq:tree.drop (k+(flat t).length)=bY ts++rest:=by rw[<-List.drop_drop,hd',List.drop_left]
  have akl:k+(flat t).length≤tree.length:=by have h2:=congrArg aR hd';rw[an,br]at h2;omega
  refine(IW hel htc hl hn hk ts (i+1) (k+(flat t).length) (rest:=rest) (l:=l++[(k:Int)]) (s:=s1) (by omega) (by rw[an,bp,Gn]) hwf.2 Gq akl (Dr.trans (f2.trans f3)) (hs1.keep (f2.trans f3)) (by rw[<-inc (i:=i) (by omega)];exact F3)).mono fun g4 w4 dh=>?_
  obtain⟨eO,s',h1,h2,h3,h4⟩:=dh;refine⟨eO,s',h1,h2,?_,h4⟩;rw[a_]at h3;exact h3
theorem qF{tree:List Nd}{s:Value}{cj:Nat}{n:Nd}{ks:List T}{rest:List Nd}(h:cK w s tree)(hl:tree.length≤1000000)(ht:vk (.nd n ks))(hd:tree.drop cj=flat (.nd n ks)++rest):dV 75 #[s,iV cj] w fun v w'=>bA w w'∧c7 w' w.heap.size v ((fX (cj+1) ks).map Int.ofNat):=by
 have oV:tree.drop cj=n::(bY ks++rest):=by rw[hd];simp[flat]
 obtain⟨hx,b_,hlt⟩:=dM oV;rcases h.ex with⟨_,rfl⟩|⟨A,o,c,rfl,hc,hel⟩
 ·simp at hlt
 have hfl:=f_ ks;have hle:(bY ks).length≤tree.length:=by have:=congrArg aR b_;rw[an,br]at this;omega
 have hk:n.kids=ks.length:=ht.1;refine cI fun cs=>?_;obtain⟨ρ,hρ⟩:∃ρ:Env,ρ=bO [(51,tree.length),(52,c),(53,o),(10,cj)] [(50,A)] []:=⟨_,rfl⟩;refine(ajJ.go ρ (dU Xk rfl (bS A o tree.length c) (iV cj)) (by rw[hρ];rfl) trivial trivial).trans fun g1 w1 oV=>?_;obtain⟨I,B,bR,rfl,f1,F1,_⟩:=oV;rw[hρ]at F1;refine(IW (w0:=w) hel hc hl hx (by omega) ks 0 (cj+1) (rest:=rest) (l:=[]) (s:=eH) (by omega) rfl ht.2 b_ (by omega) f1 (.inl ⟨rfl,rfl⟩) (by rw[<-inc (i:=cj) (by omega)];exact F1)).mono fun g2 w2 b_=>?_
 obtain⟨cE,s',rfl,f2,h3,h4⟩:=b_;exact⟨cE,s',rfl,h4,f2,h3⟩
end
noncomputable def K6(l:Nat):Code:=pc (bD Tryz.f91) (pd l)
theorem Xr:bT Tryz.prog 91 j6 .normal=.ok ⟨91,23,c_ 91 j6,[.code (bD Tryz.f91)],[],.run,.normal⟩:=by kernel_rfl
theorem Xs:dL 91 23 8:=fun st=>by kernel_rfl
noncomputable abbrev T_:List (Nat×AV):=[(0,sA 50 53 51 52),(1,i64 (v 10)),(2,i64 (v 11)),(3,i64 (v 12))]
theorem akm:Pc 91 23 [.code (bD Tryz.f91)] (T_) [] [] [] 5 [] [0,1,2,3] [.code (K6 6),.code .ret] [sA 50 53 51 52,i64 (v 10),i64 (v 11),i64 (v 12)] []:={}
theorem akn:Pc 91 23 [.inRegion (opsOf (K6 6)) [],.code .ret] ([(8,.bF 8)]) [] [] [] 1 [] [8] [.code .ret] [.bF 8] []:={}
noncomputable def jC(l:Nat):Code:=pc (bD Tryz.f77) (pd l)
theorem Xt:bT Tryz.prog 77 [.bF 0,.bF 1,.bF 2] .normal=.ok ⟨77,59,c_ 77 [.bF 0,.bF 1,.bF 2],[.code (bD Tryz.f77)],[],.run,.normal⟩:=by kernel_rfl
theorem Xu:p6 77 59 6 7:=fun st=>by kernel_rfl
theorem ako:Pc 77 59 [.code (bD Tryz.f77)] ([(0,.bF 0),(1,i64 (v 10)),(2,i64 (v 11))]) [] [] [] 9 [] [0,1,2,11,12] [.inRegion (opsOf (jC 6)) [2,3],.code (jC 7)] [.bF 0,i64 (v 10),i64 (v 11),.bF 0,i64 (v 10)] []:={}
theorem akp:dy 59 (opsOf (jC 6)) 2 [(11,.bF 11),(12,.bF 12)] 75 [.bF 11,.bF 12] 13:={}
theorem akq:Pc 77 59 [.inRegion (opsOf (jC 6)) [3],.code (jC 7)] ([(0,.bF 0),(1,i64 (v 10)),(2,i64 (v 11)),(13,.bF 13)]) [] [] [] 13 [] [0,1,2,8,9,10] [.code (jC 124),.code (jC 125),.code (jC 63)] [.bF 0,i64 (v 10),i64 (v 11),.bF 13,i64 (v 11),i64 (.lit 0)] []:={}
abbrev Ew:List (BE×Bool):=[((.cmp .lss (.lit 0) (.tn (v 81))),true),((.cmp .geq (.lit 0) (.tn (v 81))),false)]
noncomputable abbrev Ua:List Item:=[.inRegion (opsOf (jC 124)) [],.code (jC 125),.code (jC 63)]
theorem akr:Pc 77 59 Ua ([(0,.bF 0),(1,i64 (v 10)),(2,i64 (v 11)),(8,sA 80 83 81 82),(9,i64 (v 14)),(10,i64 (.lit 0)),(29,TB)]) Ew [(⟨(.dyn 80),(.plus (.tn (v 83)) (.lit 0))⟩,i64 (v 12)),(⟨(.dyn 80),(v 83)⟩,i64 (v 12))] [] 8 [] [0,1,2,8,31,34,35] [.inRegion (opsOf (jC 250)) [5,6,7,8,9,10],.code (jC 63)] [.bF 0,i64 (v 10),i64 (v 11),sA 80 83 81 82,.bF 0,i64 (v 12),i64 (v 11)] []:={}
theorem aks:dy 59 (opsOf (jC 250)) 5 [(31,.bF 31),(34,.bF 34),(35,.bF 35)] 77 [.bF 31,.bF 34,.bF 35] 36:={}
theorem akt:Pc 77 59 Ua ([(0,.bF 0),(1,i64 (v 10)),(2,i64 (v 11)),(8,sA 80 83 81 82),(9,i64 (v 14)),(10,i64 (.lit 0)),(29,FB)]) Ew [(⟨(.dyn 80),(.plus (.tn (v 83)) (.lit 0))⟩,i64 (v 12)),(⟨(.dyn 80),(v 83)⟩,i64 (v 12))] [] 9 [] [0,1,2,8,10,39,40,43,44] [.inRegion (opsOf (jC 251)) [6,7],.code (jC 63)] [.bF 0,i64 (v 10),i64 (v 11),sA 80 83 81 82,i64 (.lit 0),.bF 0,i64 (v 10),i64 (v 12),i64 (v 11)] []:={}
theorem aku:dy 59 (opsOf (jC 251)) 6 [(39,.bF 39),(40,.bF 40),(43,.bF 43),(44,.bF 44)] 78 [.bF 39,.bF 40,i64 (.lit 0),.bF 43,.bF 44] 45:={}
abbrev IX:List (BE×Bool):=[((.cmp .lss (.lit 1) (.tn (v 81))),true),((.cmp .geq (.lit 1) (.tn (v 81))),false)]
noncomputable abbrev Ub:List Item:=[.inRegion (opsOf (jC 126)) [9,10,11,12,13,14],.code .ret]
theorem akv:Pc 77 59 [.inRegion (opsOf (jC 250)) [6,7,8,9,10],.code (jC 63)] ([(0,.bF 0),(1,i64 (v 10)),(2,i64 (v 11)),(8,sA 80 83 81 82),(36,.tuple [i64 (v 14),i64 (v 15)])]) IX [(⟨(.dyn 80),(.plus (.tn (v 83)) (.lit 1))⟩,i64 (v 13))] [] 17 [] [10,46,47,48,51,54] Ub [i64 (v 15),i64 (v 14),.bF 0,i64 (v 10),i64 (v 13),i64 (.op .add .i64 (v 11) (v 15))] []:={}
theorem akw:Pc 77 59 [.inRegion (opsOf (jC 251)) [7],.code (jC 63)] ([(0,.bF 0),(1,i64 (v 10)),(2,i64 (v 11)),(8,sA 80 83 81 82),(10,i64 (.lit 0)),(45,i64 (v 14))]) IX [(⟨(.dyn 80),(.plus (.tn (v 83)) (.lit 1))⟩,i64 (v 13))] [] 13 [] [10,46,47,48,51,54] Ub [i64 (.lit 0),i64 (v 14),.bF 0,i64 (v 10),i64 (v 13),i64 (.op .add .i64 (v 11) (.lit 0))] []:={}
theorem akx:dy 59 (opsOf (jC 126)) 9 [(47,.bF 47),(48,.bF 48),(51,.bF 51),(54,.bF 54)] 78 [.bF 47,.bF 48,i64 (.lit 1),.bF 51,.bF 54] 55:={}
theorem aky:j7 59 (opsOf (jC 126)) 10 [] (.call {callee:=.builtin .max,args:=#[.tmp 46,.tmp 55],argTypes:=#[3,3]}) 3 (some 56):={}
theorem akz:Pc 77 59 [.inRegion (opsOf (jC 126)) [11,12,13,14],.code .ret] ([(10,i64 (v 15)),(56,i64 (v 16))]) [] [] [] 5 [] [6,7] [.code .ret] [i64 (v 16),i64 (.op .add .i64 (v 15) (.lit 1))] []:={}
section
variable {w w0:World}{cs:List Frame}{fr:Frame}
theorem RV{Ev:Event->Prop}{E:Value->World->Prop}{a b:Int}{ts:Array TypeId}{ty:TypeId}{Q:Value->World->Prop}(hq:Q (iV (if b<a then b else a)) w):wq Tryz.prog Ev E (Builtin.min_ ts ty #[iV a,iV b]) Q w:=by simp only[Builtin.min_,iV,List.foldlM_cons,List.foldlM_nil,Builtin.min2,bH,bI];exact hq
theorem RX{Ev:Event->Prop}{E:Value->World->Prop}{a b:Int}{ts:Array TypeId}{ty:TypeId}{Q:Value->World->Prop}(hq:Q (iV (max2 a b)) w):wq Tryz.prog Ev E (Builtin.max_ ts ty #[iV a,iV b]) Q w:=by simp only[Builtin.max_,iV,List.foldlM_cons,List.foldlM_nil,Builtin.max2,bH,bI];exact hq
theorem GV{i d fn nt a b:Nat}{ops:Array Oper}{ts:Array TypeId}{ty:TypeId}{l:List Nat}{k:List Item}{lv:List (Nat×Value)}{x y:Int}(o:j7 nt ops i [] (.call {callee:=.builtin .max,args:=#[.tmp a,.tmp b],argTypes:=ts}) ty (some d))(hf:FA fn nt (.inRegion ops (i::l)::k) [] .normal lv fr)(hdn:d<nt)(hx:gh a lv=some (iV x))(hy:gh b lv=some (iV y)):
  Goes (G fr cs) w fun g' w'=>∃fr',g'=G fr' cs∧w'=w∧FA fn nt (.inRegion ops l::k) [] .normal (fP d (iV (max2 x y)) lv) fr':=by
 refine(o.go (R:=fun v w'=>v=iV (max2 x y)∧w'=w) (bO [] [] []) hf hdn rfl fun tm ir x' e1 e2=>?_).mono fun g' w' hd=>?_
 ·unfold execOp;simp only[e1,resolve,bH,bI,invoke,builtin];rw[show Array.map (⟨tm,[]⟩:Act).eval #[Operand.tmp a,Operand.tmp b]=#[(⟨tm,[]⟩:Act).eval (.tmp a),(⟨tm,[]⟩:Act).eval (.tmp b)]from by simp];rw[ir a _ hx,ir b _ hy];exact RX ⟨_,rfl,rfl,rfl⟩
 ·obtain⟨fr',v,rfl,⟨rfl,rfl⟩,F⟩:=hd;exact⟨fr',rfl,rfl,F⟩
theorem O7{i d fn nt a:Nat}{c:Int}{ops:Array Oper}{ts:Array TypeId}{ty:TypeId}{l:List Nat}{k:List Item}{lv:List (Nat×Value)}{x:Int}(o:j7 nt ops i [] (.call {callee:=.builtin .min,args:=#[.tmp a,.const (.int .i64 c)],argTypes:=ts}) ty (some d))(hf:FA fn nt (.inRegion ops (i::l)::k) [] .normal lv fr)(hdn:d<nt)(hx:gh a lv=some (iV x)):
  Goes (G fr cs) w fun g' w'=>∃fr',g'=G fr' cs∧w'=w∧FA fn nt (.inRegion ops l::k) [] .normal (fP d (iV (if c<x then c else x)) lv) fr':=by
 refine(o.go (R:=fun v w'=>v=iV (if c<x then c else x)∧w'=w) (bO [] [] []) hf hdn rfl fun tm ir x' e1 e2=>?_).mono fun g' w' hd=>?_
 ·unfold execOp;simp only[e1,resolve,bH,bI,invoke,builtin];rw[show Array.map (⟨tm,[]⟩:Act).eval #[Operand.tmp a,Operand.const (.int .i64 c)]=#[(⟨tm,[]⟩:Act).eval (.tmp a),(⟨tm,[]⟩:Act).eval (.const (.int .i64 c))]from by simp];rw[ir a _ hx];exact RV ⟨_,rfl,rfl,rfl⟩
 ·obtain⟨fr',v,rfl,⟨rfl,rfl⟩,F⟩:=hd;exact⟨fr',rfl,rfl,F⟩
theorem GW{op:Int}{i:Nat}(hr:cm op=3->i=0)(hi:i≤1000000):dV 103 #[cY op,iV i] w fun v w'=>bA w w'∧v=iV (eF op i):=by
 refine Goes.iY fun cs=>?_;refine(ajO.go (bO [(1,op),(10,i)] [] []) (dU RS rfl (cY op) (iV i)) rfl trivial trivial).trans fun g1 w1 hd=>?_;obtain⟨I,B,bR,rfl,f1,F1,_⟩:=hd;refine(ajP.go (bO [] [] [(5,cY op)]) (Q:=fun v w'=>v=iV (cm op)) F1 rfl fun w' f=>oo).trans fun g2 w2 b_=>?_;obtain⟨cE,v,rfl,f2,rfl,F2⟩:=b_;have f12:=f1.trans f2;have hk:=x4 op;have em:(if(1:Int)<(i:Int)then 1 else(i:Int))=if i>0 then 1 else 0:=by
  by_cases h:i>0
  ·rw[if_pos h];split<;>omega
  ·rw[if_neg h,if_neg (by omega)];omega
 unfold eF;by_cases h1:cm op=1
 ·rw[h1]at F2⊢;refine(ajQ.go (bO [(10,i)] [] []) F2 rfl trivial trivial).trans fun g3 w3 cv=>?_;obtain⟨I,B,cF,rfl,f3,F3,_⟩:=cv;refine(O7 (x:=(i:Int)) ajR F3 (by decide) rfl).trans fun g4 w4 dh=>?_;obtain⟨eO,rfl,rfl,F4⟩:=dh;rw[em]at F4;refine ajS.out wK (bO [(11,(if i>0 then 1 else 0:Int))] [] []) F4 rfl trivial trivial (f12.trans f3) fun _ _ _ _=>?_;show iV (iz .add .i64 1 (if i>0 then 1 else 0:Int))=_;by_cases h:i>0
  ·simp only[if_pos h];rfl
  ·simp only[if_neg h];rfl
 by_cases h2:cm op=2
 ·rw[h2]at F2⊢;refine(ajT.go (bO [(10,i)] [] []) F2 rfl trivial trivial).trans fun g3 w3 cv=>?_;obtain⟨I,B,cF,rfl,f3,F3,_⟩:=cv;refine(O7 (x:=(i:Int)) ajU F3 (by decide) rfl).trans fun g4 w4 dh=>?_;obtain⟨eO,rfl,rfl,F4⟩:=dh;rw[em]at F4;refine ajV.out wK (bO [(11,(if i>0 then 1 else 0:Int))] [] []) F4 rfl trivial trivial (f12.trans f3) fun _ _ _ _=>?_;show iV (iz .add .i64 2 (if i>0 then 1 else 0:Int))=_;by_cases h:i>0
  ·simp only[if_pos h];rfl
  ·simp only[if_neg h];rfl
 by_cases h3:cm op=3
 ·have:=hr h3;subst this;rw[h3]at F2⊢;exact ajW.out wK (bO [] [] []) F2 rfl trivial trivial f12 fun _ _ _ _=>rfl
 ·have h4:cm op=4:=by omega
  rw[h4]at F2⊢;exact ajX.out wK (bO [] [] []) F2 rfl trivial trivial f12 fun _ _ _ _=>rfl
end
noncomputable abbrev j9:Array Oper:=opsOf (K6 6)
theorem Xv:dH 23 j9 0 [] [] [(0,sA 50 53 51 52)] (sA 50 53 51 52) 9:={}
theorem Xw:dH 23 j9 1 [] [] [(3,i64 (v 12))] (i64 (v 12)) 10:={}
abbrev Uc:List (BE×Bool):=[((.cmp .lss (v 12) (.tn (v 51))),true),((.cmp .leq (.lit 0) (v 12)),true)]
theorem Xx:dH 23 j9 2 Uc [] [(9,sA 50 53 51 52),(10,i64 (v 12))] (.ptr (some (eB 50 53 12 4))) 11:={}
theorem Xy:dH 23 j9 3 [] [] [(11,.ptr (some (eB 50 53 12 4)))] (.ptr (some (eB 50 53 12 4))) 12:={}
theorem Xz:dH 23 j9 4 [] [(eB 50 53 12 4,i8 (v 2))] [(12,.ptr (some (eB 50 53 12 4)))] (i8 (v 2)) 13:={}
theorem XA:dy 23 j9 5 [(13,i8 (v 2))] 76 [i8 (v 2)] 14:={}
theorem XB:dH 23 j9 6 [] [] [(0,sA 50 53 51 52)] (sA 50 53 51 52) 15:={}
theorem XC:dH 23 j9 7 [] [] [(1,i64 (v 10))] (i64 (v 10)) 16:={}
theorem XD:dH 23 j9 8 OE [] [(15,sA 50 53 51 52),(16,i64 (v 10))] (.ptr (some (eB 50 53 10 4))) 17:={}
theorem XF:dH 23 j9 9 [] [] [(17,.ptr (some (eB 50 53 10 4)))] (.ptr (some (eB 50 53 10 4))) 18:={}
theorem RY:dH 23 j9 10 [] [(eB 50 53 10 4,i8 (v 1))] [(18,.ptr (some (eB 50 53 10 4)))] (i8 (v 1)) 19:={}
theorem RZ:dH 23 j9 11 [] [] [(2,i64 (v 11))] (i64 (v 11)) 20:={}
theorem R1:dy 23 j9 12 [(19,i8 (v 1)),(20,i64 (v 11))] 103 [i8 (v 1),i64 (v 11)] 21:={}
theorem R3:dH 23 j9 13 [] [] [(14,i64 (v 21)),(21,i64 (v 22))] (.bool (.cmp .lss (v 21) (v 22))) 22:={}
theorem R4:dH 23 j9 14 [] [] [(22,.bool (.cmp .lss (v 21) (v 22)))] (.bool (.cmp .lss (v 21) (v 22))) 8:={}
def IY(i:Nat):Nat:=match i with
 |0=>9|1=>10|2=>11|3=>12|4=>13|5=>14|6=>15|7=>16|8=>17|9=>18|10=>19|11=>20|12=>21|13=>22|_=>8
noncomputable abbrev AZ:List (Nat×AV):=T_
noncomputable abbrev Ud:List (AA×AV):=[(eB 50 53 10 4,i8 (v 1)),(eB 50 53 12 4,i8 (v 2))]
noncomputable abbrev Ue:List (BE×Bool):=[((.cmp .lss (v 10) (.tn (v 51))),true),((.cmp .leq (.lit 0) (v 10)),true),((.cmp .lss (v 10) (.lit 0)),false),((.cmp .geq (v 10) (.tn (v 51))),false),((.cmp .lss (v 12) (.tn (v 51))),true),((.cmp .leq (.lit 0) (v 12)),true),((.cmp .lss (v 12) (.lit 0)),false),((.cmp .geq (v 12) (.tn (v 51))),false)]
noncomputable def yK(ρ:Env)(i:Nat)(u:Value)(w:World):Prop:=match i with
 |0=>u=(sA 50 53 51 52:AV).ev ρ
 |1=>u=(i64 (v 12):AV).ev ρ
 |2=>u=(.ptr (some (eB 50 53 12 4)):AV).ev ρ
 |3=>u=(.ptr (some (eB 50 53 12 4)):AV).ev ρ
 |4=>u=(i8 (v 2):AV).ev ρ
 |5=>u=(i64 (v 21):AV).ev ρ
 |6=>u=(sA 50 53 51 52:AV).ev ρ
 |7=>u=(i64 (v 10):AV).ev ρ
 |8=>u=(.ptr (some (eB 50 53 10 4)):AV).ev ρ
 |9=>u=(.ptr (some (eB 50 53 10 4)):AV).ev ρ
 |10=>u=(i8 (v 1):AV).ev ρ
 |11=>u=(i64 (v 11):AV).ev ρ
 |12=>u=(i64 (v 22):AV).ev ρ
 |13=>u=(.bool (.cmp .lss (v 21) (v 22)):AV).ev ρ
 |_=>u=(.bool (.cmp .lss (v 21) (v 22)):AV).ev ρ
theorem GX{ρ:Env}(i:Nat)(u:Value)(w w':World)(h:yK ρ i u w)(f:bA w w'):yK ρ i u w':=by
 unfold yK at h⊢;split at h
 all_goals first|exact h
section
variable {w w0:World}{cs:List Frame}{fr:Frame}
theorem K7{ρ:Env}{i:Nat}{k:List Item}(p11:ρ.i 11=(i:Int))(XG:ρ.i 21=cm (ρ.i 2))(XH:ρ.i 22=eF (ρ.i 1) i)(pr:cm (ρ.i 1)=3->i=0)(pi:i≤1000000)(iH:cg ρ Ue)(hmem:cq ρ w0 Ud):
  ∀i,i<15->(true)=true->∀(l:List Nat) (w:World) (fr:Frame) (lv:List (Nat×Value)),bA w0 w->FA 91 23 (.inRegion j9 (i::l)::k) [] .normal lv fr->(∀x∈told ρ AZ,x∈lv)->(∀p∈jf j9 i,∃v,(IY p,v)∈lv∧yK ρ p v w)->
   Goes (G fr cs) w fun g' w'=>∃fr' v,g'=G fr' cs∧bA w w'∧yK ρ i v w'∧FA 91 23 (.inRegion j9 l::k) [] .normal (fP (IY i) v lv) fr':=by
 intro j hi he l w fr lv f hf hb hp;have bm:∀{j:Nat} {q:Nat×Value},(told ρ AZ)[j]?=some q->q∈lv:=fun h=>hb _ (az h);rcases(by omega:j=0∨j=1∨j=2∨j=3∨j=4∨j=5∨j=6∨j=7∨j=8∨j=9∨j=10∨j=11∨j=12∨j=13∨j=14)with rfl|rfl|rfl|rfl|rfl|rfl|rfl|rfl|rfl|rfl|rfl|rfl|rfl|rfl|rfl
 ·exact Xv.di ρ hf (by decide) (cX (bm (j:=0) rfl)) trivial trivial rfl
 ·exact Xw.di ρ hf (by decide) (cX (bm (j:=3) rfl)) trivial trivial rfl
 ·obtain⟨v0,q0,e0⟩:=hp 0 (dI (by kernel_rfl));have e0:v0=(sA 50 53 51 52:AV).ev ρ:=e0;subst e0;obtain⟨v1,q1,e1⟩:=hp 1 (dI (by kernel_rfl));have e1:v1=(i64 (v 12):AV).ev ρ:=e1;subst e1;exact Xx.di ρ hf (by decide) (ko q0 q1) ⟨iH.2.2.2.2.1,iH.2.2.2.2.2.1,trivial⟩ trivial rfl
 ·obtain⟨v2,q2,e2⟩:=hp 2 (dI (by kernel_rfl));have e2:v2=(.ptr (some (eB 50 53 12 4)):AV).ev ρ:=e2;subst e2;exact Xy.di ρ hf (by decide) (cX q2) trivial trivial rfl
 ·obtain⟨v3,q3,e3⟩:=hp 3 (dI (by kernel_rfl));have e3:v3=(.ptr (some (eB 50 53 12 4)):AV).ev ρ:=e3;subst e3;exact Xz.di ρ hf (by decide) (cX q3) trivial ⟨f.cell hmem.2.1,trivial⟩ rfl
 ·obtain⟨v4,q4,e4⟩:=hp 4 (dI (by kernel_rfl));have e4:v4=(i8 (v 2):AV).ev ρ:=e4;subst e4;exact XA.di ρ (Q:=fun u w'=>u=(i64 (v 21)).ev ρ) hf (cX q4) (fun w' f1=>by show dV 76 #[cY (ρ.i 2)] w' _;refine oo.mono fun u w2 hd=>⟨hd.1,?_⟩;rw[hd.2,<-XG];rfl)
 ·exact XB.di ρ hf (by decide) (cX (bm (j:=0) rfl)) trivial trivial rfl
 ·exact XC.di ρ hf (by decide) (cX (bm (j:=1) rfl)) trivial trivial rfl
 ·obtain⟨v6,q6,e6⟩:=hp 6 (dI (by kernel_rfl));have e6:v6=(sA 50 53 51 52:AV).ev ρ:=e6;subst e6;obtain⟨v7,q7,e7⟩:=hp 7 (dI (by kernel_rfl));have e7:v7=(i64 (v 10):AV).ev ρ:=e7;subst e7;exact XD.di ρ hf (by decide) (ko q6 q7) ⟨iH.1,iH.2.1,trivial⟩ trivial rfl
 ·obtain⟨v8,q8,e8⟩:=hp 8 (dI (by kernel_rfl));have e8:v8=(.ptr (some (eB 50 53 10 4)):AV).ev ρ:=e8;subst e8;exact XF.di ρ hf (by decide) (cX q8) trivial trivial rfl
 ·obtain⟨v9,q9,e9⟩:=hp 9 (dI (by kernel_rfl));have e9:v9=(.ptr (some (eB 50 53 10 4)):AV).ev ρ:=e9;subst e9;exact RY.di ρ hf (by decide) (cX q9) trivial ⟨f.cell hmem.1,trivial⟩ rfl
 ·exact RZ.di ρ hf (by decide) (cX (bm (j:=2) rfl)) trivial trivial rfl
 ·obtain⟨v10,Gu,p_⟩:=hp 10 (dI (by kernel_rfl));have p_:v10=(i8 (v 1):AV).ev ρ:=p_;subst p_;obtain⟨v11,TM,zB⟩:=hp 11 (dI (by kernel_rfl));have zB:v11=(i64 (v 11):AV).ev ρ:=zB;subst zB;exact R1.di ρ (Q:=fun u w'=>u=(i64 (v 22)).ev ρ) hf (ko Gu TM) (fun w' f1=>by show dV 103 #[cY (ρ.i 1),iV (ρ.i 11)] w' _;rw[p11];refine(GW pr pi).mono fun u w2 hd=>⟨hd.1,?_⟩;rw[hd.2,<-XH];rfl)
 ·obtain⟨v5,q5,e5⟩:=hp 5 (dI (by kernel_rfl));have e5:v5=(i64 (v 21):AV).ev ρ:=e5;subst e5;obtain⟨v12,sj,BJ⟩:=hp 12 (dI (by kernel_rfl));have BJ:v12=(i64 (v 22):AV).ev ρ:=BJ;subst BJ;exact R3.di ρ hf (by decide) (ko q5 sj) trivial trivial rfl
 ·obtain⟨VX,zD,BI⟩:=hp 13 (dI (by kernel_rfl));have BI:VX=(.bool (.cmp .lss (v 21) (v 22)):AV).ev ρ:=BI;subst BI;exact R4.di ρ hf (by decide) (cX zD) trivial trivial rfl
theorem O8{ρ:Env}{i:Nat}{k:List Item}{lv:List (Nat×Value)}(p11:ρ.i 11=(i:Int))(XG:ρ.i 21=cm (ρ.i 2))(XH:ρ.i 22=eF (ρ.i 1) i)(pr:cm (ρ.i 1)=3->i=0)(pi:i≤1000000)(iH:cg ρ Ue)(hmem:cq ρ w Ud)(hl:eZ lv (told ρ AZ))(hf:FA 91 23 (.code (K6 6)::k) [] .normal lv fr):
  Goes (G fr cs) w fun g' w'=>∃fr' jm,g'=G fr' cs∧bA w w'∧FA 91 23 (.inRegion j9 []::k) [] .normal jm fr'∧(∀x∈told ρ AZ,x∈jm)∧∀i,i<15->(true)=true->∃v,(IY i,v)∈jm∧yK ρ i v w':=by
 obtain⟨id,hid⟩:=gS (c:=K6 6) (by kernel_rfl);have hf:=hf.only hl;rw[hid]at hf;refine(gQ hf).trans fun g1 w1 hd=>?_;obtain⟨ls,bR,rfl,f1,hs,F1⟩:=hd;refine(iw (b:=told ρ AZ) (nm:=IY) (val:=yK ρ) (early:=fun _=>true) (late:=[]) (n:=15) (w0:=w) (by kernel_rfl) (by kernel_rfl) (by kernel_rfl) (by kernel_rfl) (by kernel_rfl) (by kernel_rfl) (by kernel_rfl) List.Pairwise.nil GX (K7 p11 XG XH pr pi iH hmem) ls [] f1 (fun i hi=>by cases hi) hs ⟨_,F1,fun x hx=>hx,fun i hi=>by cases hi⟩).mono fun g2 w2 b_=>?_;obtain⟨cE,lv,h1,h2,h3,h4,h5⟩:=b_;exact⟨cE,lv,h1,h2,h3,h4,h5⟩
end
noncomputable abbrev j_:Array Oper:=opsOf (jC 124)
theorem XI:dH 59 j_ 0 [] [] [(0,sA 50 53 51 52)] (sA 50 53 51 52) 15:={}
theorem XJ:dH 59 j_ 1 [] [] [(8,sA 80 83 81 82)] (sA 80 83 81 82) 16:={}
abbrev O9:List (BE×Bool):=[((.cmp .lss (.lit 0) (.tn (v 81))),true)]
theorem XK:dH 59 j_ 2 O9 [] [(16,sA 80 83 81 82)] (.ptr (some ⟨(.dyn 80),(v 83)⟩)) 17:={}
theorem XL:dH 59 j_ 3 [] [(⟨(.dyn 80),(v 83)⟩,i64 (v 12))] [(17,.ptr (some ⟨(.dyn 80),(v 83)⟩))] (i64 (v 12)) 18:={}
theorem XM:dH 59 j_ 4 Uc [] [(15,sA 50 53 51 52),(18,i64 (v 12))] (.ptr (some (eB 50 53 12 4))) 19:={}
theorem XN:dH 59 j_ 5 [] [] [(19,.ptr (some (eB 50 53 12 4)))] (.ptr (some (eB 50 53 12 4))) 20:={}
theorem XO:dH 59 j_ 6 [] [(eB 50 53 12 4,i8 (v 2))] [(20,.ptr (some (eB 50 53 12 4)))] (i8 (v 2)) 21:={}
theorem XP:dy 59 j_ 7 [(21,i8 (v 2))] 76 [i8 (v 2)] 22:={}
theorem XQ:dH 59 j_ 8 [] [] [(0,sA 50 53 51 52)] (sA 50 53 51 52) 23:={}
theorem XR:dH 59 j_ 9 [] [] [(1,i64 (v 10))] (i64 (v 10)) 24:={}
theorem R5:dH 59 j_ 10 OE [] [(23,sA 50 53 51 52),(24,i64 (v 10))] (.ptr (some (eB 50 53 10 4))) 25:={}
theorem R6:dH 59 j_ 11 [] [] [(25,.ptr (some (eB 50 53 10 4)))] (.ptr (some (eB 50 53 10 4))) 26:={}
theorem R7:dH 59 j_ 12 [] [(eB 50 53 10 4,i8 (v 1))] [(26,.ptr (some (eB 50 53 10 4)))] (i8 (v 1)) 27:={}
theorem R8:dy 59 j_ 13 [(27,i8 (v 1))] 76 [i8 (v 1)] 28:={}
theorem R9:dH 59 j_ 14 [] [] [(22,i64 (v 21)),(28,i64 (v 22))] (.bool (.cmp .eql (v 21) (v 22))) 29:={}
def IZ(i:Nat):Nat:=match i with
 |0=>15|1=>16|2=>17|3=>18|4=>19|5=>20|6=>21|7=>22|8=>23|9=>24|10=>25|11=>26|12=>27|13=>28|_=>29
noncomputable abbrev yL:List (Nat×AV):=[(0,sA 50 53 51 52),(1,i64 (v 10)),(8,sA 80 83 81 82),(2,i64 (v 11)),(9,i64 (v 11)),(10,i64 (.lit 0))]
noncomputable abbrev Uf:List (AA×AV):=[(⟨(.dyn 80),(.plus (.tn (v 83)) (.lit 0))⟩,i64 (v 12)),(⟨(.dyn 80),(v 83)⟩,i64 (v 12)),(eB 50 53 10 4,i8 (v 1)),(eB 50 53 12 4,i8 (v 2))]
noncomputable abbrev Ug:List (BE×Bool):=[((.cmp .lss (.lit 0) (.tn (v 81))),true),((.cmp .geq (.lit 0) (.tn (v 81))),false),((.cmp .lss (v 10) (.tn (v 51))),true),((.cmp .leq (.lit 0) (v 10)),true),((.cmp .lss (v 10) (.lit 0)),false),((.cmp .geq (v 10) (.tn (v 51))),false),((.cmp .lss (v 12) (.tn (v 51))),true),((.cmp .leq (.lit 0) (v 12)),true),((.cmp .lss (v 12) (.lit 0)),false),((.cmp .geq (v 12) (.tn (v 51))),false)]
noncomputable def yM(ρ:Env)(i:Nat)(u:Value)(w:World):Prop:=match i with
 |0=>u=(sA 50 53 51 52:AV).ev ρ
 |1=>u=(sA 80 83 81 82:AV).ev ρ
 |2=>u=(.ptr (some ⟨(.dyn 80),(v 83)⟩):AV).ev ρ
 |3=>u=(i64 (v 12):AV).ev ρ
 |4=>u=(.ptr (some (eB 50 53 12 4)):AV).ev ρ
 |5=>u=(.ptr (some (eB 50 53 12 4)):AV).ev ρ
 |6=>u=(i8 (v 2):AV).ev ρ
 |7=>u=(i64 (v 21):AV).ev ρ
 |8=>u=(sA 50 53 51 52:AV).ev ρ
 |9=>u=(i64 (v 10):AV).ev ρ
 |10=>u=(.ptr (some (eB 50 53 10 4)):AV).ev ρ
 |11=>u=(.ptr (some (eB 50 53 10 4)):AV).ev ρ
 |12=>u=(i8 (v 1):AV).ev ρ
 |13=>u=(i64 (v 22):AV).ev ρ
 |_=>u=(.bool (.cmp .eql (v 21) (v 22)):AV).ev ρ
theorem GY{ρ:Env}(i:Nat)(u:Value)(w w':World)(h:yM ρ i u w)(f:bA w w'):yM ρ i u w':=by
 unfold yM at h⊢;split at h
 all_goals first|exact h
section
variable {w w0:World}{cs:List Frame}{fr:Frame}
theorem K8{ρ:Env}{k:List Item}(XG:ρ.i 21=cm (ρ.i 2))(XH:ρ.i 22=cm (ρ.i 1))(iH:cg ρ Ug)(hmem:cq ρ w0 Uf):
  ∀i,i<15->(true)=true->∀(l:List Nat) (w:World) (fr:Frame) (lv:List (Nat×Value)),bA w0 w->FA 77 59 (.inRegion j_ (i::l)::k) [] .normal lv fr->(∀x∈told ρ yL,x∈lv)->(∀p∈jf j_ i,∃v,(IZ p,v)∈lv∧yM ρ p v w)->
   Goes (G fr cs) w fun g' w'=>∃fr' v,g'=G fr' cs∧bA w w'∧yM ρ i v w'∧FA 77 59 (.inRegion j_ l::k) [] .normal (fP (IZ i) v lv) fr':=by
 intro j hi he l w fr lv f hf hb hp;have bm:∀{j:Nat} {q:Nat×Value},(told ρ yL)[j]?=some q->q∈lv:=fun h=>hb _ (az h);rcases(by omega:j=0∨j=1∨j=2∨j=3∨j=4∨j=5∨j=6∨j=7∨j=8∨j=9∨j=10∨j=11∨j=12∨j=13∨j=14)with rfl|rfl|rfl|rfl|rfl|rfl|rfl|rfl|rfl|rfl|rfl|rfl|rfl|rfl|rfl
 ·exact XI.di ρ hf (by decide) (cX (bm (j:=0) rfl)) trivial trivial rfl
 ·exact XJ.di ρ hf (by decide) (cX (bm (j:=2) rfl)) trivial trivial rfl
 ·obtain⟨v1,q1,e1⟩:=hp 1 (dI (by kernel_rfl));have e1:v1=(sA 80 83 81 82:AV).ev ρ:=e1;subst e1;exact XK.di ρ hf (by decide) (cX q1) ⟨iH.1,trivial⟩ trivial rfl
 ·obtain⟨v2,q2,e2⟩:=hp 2 (dI (by kernel_rfl));have e2:v2=(.ptr (some ⟨(.dyn 80),(v 83)⟩):AV).ev ρ:=e2;subst e2;exact XL.di ρ hf (by decide) (cX q2) trivial ⟨f.cell hmem.2.1,trivial⟩ rfl
 ·obtain⟨v0,q0,e0⟩:=hp 0 (dI (by kernel_rfl));have e0:v0=(sA 50 53 51 52:AV).ev ρ:=e0;subst e0;obtain⟨v3,q3,e3⟩:=hp 3 (dI (by kernel_rfl));have e3:v3=(i64 (v 12):AV).ev ρ:=e3;subst e3;exact XM.di ρ hf (by decide) (ko q0 q3) ⟨iH.2.2.2.2.2.2.1,iH.2.2.2.2.2.2.2.1,trivial⟩ trivial rfl
 ·obtain⟨v4,q4,e4⟩:=hp 4 (dI (by kernel_rfl));have e4:v4=(.ptr (some (eB 50 53 12 4)):AV).ev ρ:=e4;subst e4;exact XN.di ρ hf (by decide) (cX q4) trivial trivial rfl
 ·obtain⟨v5,q5,e5⟩:=hp 5 (dI (by kernel_rfl));have e5:v5=(.ptr (some (eB 50 53 12 4)):AV).ev ρ:=e5;subst e5;exact XO.di ρ hf (by decide) (cX q5) trivial ⟨f.cell hmem.2.2.2.1,trivial⟩ rfl
 ·obtain⟨v6,q6,e6⟩:=hp 6 (dI (by kernel_rfl));have e6:v6=(i8 (v 2):AV).ev ρ:=e6;subst e6;exact XP.di ρ (Q:=fun u w'=>u=(i64 (v 21)).ev ρ) hf (cX q6) (fun w' f1=>by show dV 76 #[cY (ρ.i 2)] w' _;refine oo.mono fun u w2 hd=>⟨hd.1,?_⟩;rw[hd.2,<-XG];rfl)
 ·exact XQ.di ρ hf (by decide) (cX (bm (j:=0) rfl)) trivial trivial rfl
 ·exact XR.di ρ hf (by decide) (cX (bm (j:=1) rfl)) trivial trivial rfl
 ·obtain⟨v8,q8,e8⟩:=hp 8 (dI (by kernel_rfl));have e8:v8=(sA 50 53 51 52:AV).ev ρ:=e8;subst e8;obtain⟨v9,q9,e9⟩:=hp 9 (dI (by kernel_rfl));have e9:v9=(i64 (v 10):AV).ev ρ:=e9;subst e9;exact R5.di ρ hf (by decide) (ko q8 q9) ⟨iH.2.2.1,iH.2.2.2.1,trivial⟩ trivial rfl
 ·obtain⟨v10,Gu,p_⟩:=hp 10 (dI (by kernel_rfl));have p_:v10=(.ptr (some (eB 50 53 10 4)):AV).ev ρ:=p_;subst p_;exact R6.di ρ hf (by decide) (cX Gu) trivial trivial rfl
 ·obtain⟨v11,TM,zB⟩:=hp 11 (dI (by kernel_rfl));have zB:v11=(.ptr (some (eB 50 53 10 4)):AV).ev ρ:=zB;subst zB;exact R7.di ρ hf (by decide) (cX TM) trivial ⟨f.cell hmem.2.2.1,trivial⟩ rfl
 ·obtain⟨v12,sj,BJ⟩:=hp 12 (dI (by kernel_rfl));have BJ:v12=(i8 (v 1):AV).ev ρ:=BJ;subst BJ;exact R8.di ρ (Q:=fun u w'=>u=(i64 (v 22)).ev ρ) hf (cX sj) (fun w' f1=>by show dV 76 #[cY (ρ.i 1)] w' _;refine oo.mono fun u w2 hd=>⟨hd.1,?_⟩;rw[hd.2,<-XH];rfl)
 ·obtain⟨v7,q7,e7⟩:=hp 7 (dI (by kernel_rfl));have e7:v7=(i64 (v 21):AV).ev ρ:=e7;subst e7;obtain⟨VX,zD,BI⟩:=hp 13 (dI (by kernel_rfl));have BI:VX=(i64 (v 22):AV).ev ρ:=BI;subst BI;exact R9.di ρ hf (by decide) (ko q7 zD) trivial trivial rfl
theorem O_{ρ:Env}{k:List Item}{lv:List (Nat×Value)}(XG:ρ.i 21=cm (ρ.i 2))(XH:ρ.i 22=cm (ρ.i 1))(iH:cg ρ Ug)(hmem:cq ρ w Uf)(hl:eZ lv (told ρ yL))(hf:FA 77 59 (.code (jC 124)::k) [] .normal lv fr):
  Goes (G fr cs) w fun g' w'=>∃fr' jm,g'=G fr' cs∧bA w w'∧FA 77 59 (.inRegion j_ []::k) [] .normal jm fr'∧(∀x∈told ρ yL,x∈jm)∧∀i,i<15->(true)=true->∃v,(IZ i,v)∈jm∧yM ρ i v w':=by
 obtain⟨id,hid⟩:=gS (c:=jC 124) (by kernel_rfl);have hf:=hf.only hl;rw[hid]at hf;refine(gQ hf).trans fun g1 w1 hd=>?_;obtain⟨ls,bR,rfl,f1,hs,F1⟩:=hd;refine(iw (b:=told ρ yL) (nm:=IZ) (val:=yM ρ) (early:=fun _=>true) (late:=[]) (n:=15) (w0:=w) (by kernel_rfl) (by kernel_rfl) (by kernel_rfl) (by kernel_rfl) (by kernel_rfl) (by kernel_rfl) (by kernel_rfl) List.Pairwise.nil GY (K8 XG XH iH hmem) ls [] f1 (fun i hi=>by cases hi) hs ⟨_,F1,fun x hx=>hx,fun i hi=>by cases hi⟩).mono fun g2 w2 b_=>?_;obtain⟨cE,lv,h1,h2,h3,h4,h5⟩:=b_;exact⟨cE,lv,h1,h2,h3,h4,h5⟩
end
noncomputable abbrev OpH:List Item:=vA
theorem XS{f nt:Nat}{t:TT}{body:Code}(h:bT Tryz.prog f Ep .normal=.ok ⟨f,nt,t,[.code body],[],.run,.normal⟩)(hs:kM (⟨f,nt,t,[.code body],[],.run,.normal⟩:bW) [0,1,2,3,4]=⟨f,nt,[.code body],[],.run,.normal,[],[],Ep⟩)(x y z u r:Value):
  FA f nt [.code body] [] .normal [(0,x),(1,y),(2,z),(3,u),(4,r)] (Frame.enter Tryz.prog f #[x,y,z,u,r] .normal):=by
 let ρ:Env:=bO [] [] [(0,x),(1,y),(2,z),(3,u),(4,r)];exact E5.of (live:=[0,1,2,3,4]) (vals:=Ep) (dA:=[]) (gZ (U:=fun _=>True) h (.inl rfl) ⟨trivial,trivial,trivial,trivial,trivial,trivial⟩ (ρ:=ρ)).1 hs (.inl rfl)
theorem kQ{tree:List Nd}{cj:Nat}{t:T}{rest:List Nd}(h:tree.drop cj=flat t++rest):tree[cj]?=some t.n:=by
 cases t with
 |nd n ks=>rw[flat,List.cons_append]at h;exact(dM h).1
section
variable {w w0:World}{cs:List Frame}{fr:Frame}
theorem BV{s:Value}{tree:List Nd}{cj place i:Nat}{n m:Nd}(h:cK w s tree)(hn:tree[cj]?=some n)(hm:tree[place]?=some m)(hr:cm n.op=3->i=0)(hi:i≤1000000):dV 91 #[s,iV cj,iV i,iV place] w fun v w'=>bA w w'∧v=.bool (decide (cm m.op<eF n.op i)):=by
 rcases h.ex with⟨_,rfl⟩|⟨A,o,c,rfl,hc,hel⟩
 ·cases hn
 refine Goes.iY fun cs=>?_;have l1:=(ak.1 hn).1;have l2:=(ak.1 hm).1;obtain⟨ρ,hρ⟩:∃ρ:Env,ρ=bO [(51,tree.length),(52,c),(53,o),(10,cj),(11,i),(12,place),(1,n.op),(2,m.op),(21,cm m.op),(22,eF n.op i)] [(50,A)] []:=⟨_,rfl⟩;refine(akm.go ρ (xW Xr rfl (bS A o tree.length c) (iV cj) (iV i) (iV place)) (by rw[hρ];rfl) trivial trivial).trans fun g1 w1 hd=>?_;obtain⟨I,B,bR,rfl,f1,F1,_⟩:=hd;have fN:FA 91 23 [.code (K6 6),.code .ret] [] .normal (told ρ AZ) bR:=by rw[hρ]at F1⊢;exact F1
 refine(O8 (ρ:=ρ) (i:=i) (by rw[hρ];rfl) (by rw[hρ];rfl) (by rw[hρ];rfl) (by rw[hρ];exact hr) hi (cg.app (bX (i:=10) (n:=51) (I:=cj) (N:=tree.length) (by rw[hρ];rfl) (by rw[hρ];rfl) l1) (bX (i:=12) (n:=51) (I:=place) (N:=tree.length) (by rw[hρ];rfl) (by rw[hρ];rfl) l2)) ⟨by rw[hρ];exact f1.cell (hel cj n hn).c0,by rw[hρ];exact f1.cell (hel place m hm).c0,trivial⟩ rfl fN).trans fun g2 w2 b_=>?_;obtain⟨cE,AI,rfl,f2,F2,o7,kV⟩:=b_;obtain⟨u,q,eu⟩:=kV 14 (by decide) rfl;have eu:u=(.bool (.cmp .lss (v 21) (v 22)):AV).ev ρ:=eu;subst eu;have lY:=F2.sub (jm:=[(8,(.bool (.cmp .lss (v 21) (v 22)):AV).ev ρ)]) fun x hx=>by obtain rfl:=ah.1 hx;exact q
 refine akn.out Xs (bO [] [] [(8,(.bool (.cmp .lss (v 21) (v 22)):AV).ev ρ)]) lY rfl trivial trivial (f1.trans f2) fun _ _ _ _=>?_;rw[hρ];rfl
def zI(op:Int)(i:Nat)(k:T)(d:Int):Int:=if decide (cm k.n.op<eF op i)=true then eT d 1 else d
def oN(op:Int)(i:Nat)(k:T)(d:Int):Int:=max2 (zI op i k d) (cD k (zI op i k d)).1
def yN(t:T):Prop:=∀{w:World} {s:Value} {tree:List Nd} {cj:Nat} {d:Int} {rest:List Nd},cK w s tree->tree.length≤1000000->vk t->LR t->0≤d->d+2*(flat t).length≤100000000->tree.drop cj=flat t++rest->dV 53 #[s,iV cj,iV d] w fun v w'=>bA w w'∧v=iV (cD t d).1
def Pa(t:T):Prop:=cm t.n.op<3->∀{w:World} {s:Value} {tree:List Nd} {cj:Nat} {d:Int} {rest:List Nd},cK w s tree->tree.length≤1000000->vk t->LR t->0≤d->d+2*(flat t).length≤100000000->tree.drop cj=flat t++rest->dV 77 #[s,iV cj,iV d] w fun v w'=>bA w w'∧v=.tuple #[iV (cD t d).1,iV (cD t d).2]
theorem Pb{op:Int}{i:Nat}{k:T}{d:Int}(h0:0≤d)(hb:d≤100000000):d≤zI op i k d∧zI op i k d≤d+1:=by
 unfold zI;split
 ·rw[wJ (by omega)];omega
 ·omega
theorem uT{k:T}(ih:yN k){s:Value}{tree:List Nd}{cj place i:Nat}{n:Nd}{d:Int}{rest:List Nd}(h:cK w s tree)(hl:tree.length≤1000000)(hn:tree[cj]?=some n)(hr:cm n.op=3->i=0)(hi:i≤1000000)(hw:vk k)(hk:LR k)(h0:0≤d)(hb:d+1+2*(flat k).length≤100000000)(hd:tree.drop place=flat k++rest):
  dV 78 #[s,iV cj,iV i,iV place,iV d] w fun v w'=>bA w w'∧v=iV (oN n.op i k d):=by
 refine Goes.iY fun cs=>?_;obtain⟨ρ,hρ⟩:∃ρ:Env,ρ=bO [(10,cj),(11,i),(12,place),(13,d)] [] [(0,s)]:=⟨_,rfl⟩;refine(ajY.go ρ (XS Xn rfl s (iV cj) (iV i) (iV place) (iV d)) (by rw[hρ];rfl) trivial trivial).trans fun g1 w1 oV=>?_;obtain⟨I,B,bR,rfl,f1,F1,_⟩:=oV;rw[hρ]at F1;refine(ajZ.go (bO [] [] [(11,s),(12,iV cj),(13,iV i),(14,iV place)]) (Q:=fun v w'=>v=.bool (decide (cm k.n.op<eF n.op i))) F1 rfl fun w' f=>BV (h.keep (f1.trans f)) hn (kQ hd) hr hi).trans fun g2 w2 b_=>?_;obtain⟨cE,v,rfl,f2,rfl,F2⟩:=b_;have f12:=f1.trans f2;have ha:=Pb (op:=n.op) (i:=i) (k:=k) h0 (by omega);have go:∀{w3:World} {cF:Frame} {a:Int},a=zI n.op i k d->bA w w3->FA 78 24 (.inRegion (opsOf (uS 14)) [4,5,6]::[.code .ret]) [] .normal [(18,iV a),(19,s),(20,iV place),(21,iV a)] cF->Goes (G cF cs) w3 (Out 78 cs w fun v w'=>v=iV (oN n.op i k d)):=fun{w3 cF a} e f3 F3=>by refine(aj2.go (bO [] [] [(19,s),(20,iV place),(21,iV a)]) (Q:=fun v w'=>v=iV (cD k a).1) F3 rfl fun w' f=>ih (h.keep (f3.trans f)) hl hw hk (by omega) (by omega) hd).trans fun g4 w4 dh=>?_;obtain⟨eO,v,rfl,f4,rfl,F4⟩:=dh;refine(GV (x:=a) (y:=(cD k a).1) aj3 F4 (by decide) rfl rfl).trans fun g5 w5 eg=>?_;obtain⟨gn,rfl,rfl,F5⟩:=eg;refine aj4.out Xo (bO [] [] [(23,iV (max2 a (cD k a).1))]) F5 rfl trivial trivial (f3.trans f4) fun _ _ _ _=>?_;rw[e];rfl
 cases e:decide (cm k.n.op<eF n.op i)with
 |true=>rw[e]at F2;refine(aj0.go ρ F2 (by rw[hρ];rfl) trivial trivial).trans fun g3 w3 cv=>?_;obtain⟨I,B,cF,rfl,f3,F3,_⟩:=cv;rw[hρ]at F3;exact go (a:=eT d 1) (by unfold zI;rw[if_pos e]) (f12.trans f3) F3
 |false=>rw[e]at F2;refine(aj1.go ρ F2 (by rw[hρ];rfl) trivial trivial).trans fun g3 w3 cv=>?_;obtain⟨I,B,cF,rfl,f3,F3,_⟩:=cv;rw[hρ]at F3;exact go (a:=d) (by unfold zI;rw[if_neg (by rw[e];decide)]) (f12.trans f3) F3
theorem I6{op:Int}(h:cm op<3):bV op=2:=by
 unfold cm at h
 repeat' (split at h)
 all_goals first
  |(rename_i e;subst e;rfl)
  |omega
theorem XT{n:Nd}{a b:T}{d:Int}(hr:cm n.op<3)(h0:0≤d)(hb:d≤100000000){m0 k0:Int}(hm:m0=if cm a.n.op=cm n.op then(cD a d).1 else oN n.op 0 a d)(hk:k0=if cm a.n.op=cm n.op then(cD a d).2 else 0):
  cD (.nd n [a,b]) d=(max2 m0 (oN n.op 1 b (eT d k0)),eT k0 1):=by
 have hA:=Pb (op:=n.op) (i:=0) (k:=a) h0 hb;have hw0:eF n.op 0=cm n.op:=by unfold eF;rw[if_pos (by omega),if_neg (by omega)]
 rw[cD,if_neg (by omega)];rw[fy,fy,fy];dsimp only;rw[if_neg (by omega:¬(cm n.op<3∧(0:Nat)=1)),if_pos (⟨hr,rfl⟩:cm n.op<3∧0+1=1),if_neg (by omega:¬(0+1=0∧cm n.op<3∧cm b.n.op=cm n.op))];show(max2 (max2 (max2 (max2 d (cD a (zI n.op 0 a d)).1) (zI n.op 0 a d)) (cD b (zI n.op 1 b (eT d (if 0=0∧cm n.op<3∧cm a.n.op=cm n.op then(cD a (zI n.op 0 a d)).2 else 0)))).1) (zI n.op 1 b (eT d (if 0=0∧cm n.op<3∧cm a.n.op=cm n.op then(cD a (zI n.op 0 a d)).2 else 0))),eT (if 0=0∧cm n.op<3∧cm a.n.op=cm n.op then(cD a (zI n.op 0 a d)).2 else 0) 1)=_;by_cases e:cm a.n.op=cm n.op
 ·have ea:zI n.op 0 a d=d:=by
   unfold zI;rw[hw0,decide_eq_false (by omega)];rfl
  rw[if_pos e]at hm hk;rw[if_pos ⟨rfl,hr,e⟩,ea,<-hk];have hge:=OV (t:=a) (d:=d) (by omega);have e1:max2 (max2 d (cD a d).1) d=m0:=by rw[nC,nC,hm];omega
  rw[e1];congr 1;unfold oN;simp only[nC];omega
 ·rw[if_neg e]at hm hk;rw[if_neg (fun h=>e h.2.2),<-hk];have e1:max2 (max2 d (cD a (zI n.op 0 a d)).1) (zI n.op 0 a d)=m0:=by
   rw[hm];unfold oN;simp only[nC];omega
  rw[e1];congr 1;unfold oN;simp only[nC];omega
theorem Pd{n:Nd}{ks:List T}(ih:∀k∈ks,yN k∧Pa k):Pa (.nd n ks):=by
 intro hr w s tree cj d rest h hl hw hok h0 hb hd;have hr:cm n.op<3:=hr;have hkn:=(om (hok (.nd n ks) (by rw[kP];exact aj ..))).2 (by rw[show(T.nd n ks).n=n from rfl,I6 hr];decide);have hkn:n.kids=bV n.op:=hkn;rw[I6 hr]at hkn;have hlen:ks.length=2:=by have:n.kids=ks.length:=hw.1;omega
 obtain⟨a,b,rfl⟩:∃a b,ks=[a,b]:=by
  match ks,hlen with
  |[a,b],_=>exact⟨a,b,rfl⟩
 obtain⟨wY,akB⟩:=ih a (by simp);obtain⟨y9,_⟩:=ih b (by simp);have hwa:vk a:=hw.2.1;have hwb:vk b:=hw.2.2.1;have hoa:=hok.kid a (by simp);have hob:=hok.kid b (by simp);have hn:tree[cj]?=some n:=kQ hd;have Pe:=(ak.1 hn).1;have oV:tree.drop (cj+1)=flat a++(flat b++rest):=by
  have:tree.drop cj=n::(flat a++(flat b++rest)):=by rw[hd];simp[flat,bY]
  exact(dM this).2.1
 have b_:tree.drop (cj+1+(flat a).length)=flat b++rest:=by rw[<-List.drop_drop,oV,List.drop_left]
 have hfl:(flat (.nd n [a,b])).length=1+(flat a).length+(flat b).length:=by simp only[flat,bY,aC,an,aX];omega
 rw[hfl]at hb;have hna:=kQ oV;have hla:=(ak.1 hna).1;have akC:(flat a).length≤1000000:=by have:=congrArg aR oV;rw[an,br]at this;omega
 rcases h.ex with⟨_,e⟩|⟨A,o,c,hs,hc,hel⟩
 ·rw[e]at hn;cases hn
 refine cI fun cs=>?_;refine(ako.go (bO [(10,cj),(11,d)] [] [(0,s)]) (p9 Xt rfl s (iV cj) (iV d)) rfl trivial trivial).trans fun g1 w1 Pf=>?_;obtain⟨I,B,bR,rfl,f1,F1,_⟩:=Pf;refine(akp.go (bO [] [] [(11,s),(12,iV cj)]) (Q:=fun v w'=>∃w1,bA w1 w'∧c7 w' w1.heap.size v ((fX (cj+1) [a,b]).map Int.ofNat)) F1 rfl fun w' f=>(qF (h.keep (f1.trans f)) hl hw hd).mono fun v w2 hd=>⟨hd.1,w',hd.1,hd.2⟩).trans fun g2 w2 Gq=>?_;obtain⟨cE,sk,rfl,f2,⟨wk,fk,hsk⟩,F2⟩:=Gq;have f12:=f1.trans f2;rcases hsk with⟨_,e⟩|⟨_,K,c',rfl,hK,hv⟩
 ·simp[fX]at e
 have k0:w2.cell? ⟨K,0,none⟩=some (iV (cj+1:Nat)):=cy.cS hv (n:=0) rfl;have k1:w2.cell? ⟨K,1,none⟩=some (iV (cj+1+(flat a).length:Nat)):=cy.cS hv (n:=1) rfl;refine(akq.go (bO [(10,cj),(11,d)] [] [(0,s),(13,bS K 0 2 c')]) F2 rfl trivial trivial).trans fun g3 w3 cv=>?_;obtain⟨I,B,cF,rfl,f3,F3,_⟩:=cv;have f13:=f12.trans f3;obtain⟨ρ,hρ⟩:∃ρ:Env,ρ=bO [(51,tree.length),(52,c),(53,o),(81,(2:Nat)),(82,c'),(83,(0:Nat)),(10,cj),(11,d),(12,(cj+1:Nat)),(13,(cj+1+(flat a).length:Nat)),(14,d),(1,n.op),(2,a.n.op),(21,cm a.n.op),(22,cm n.op)] [(50,A),(80,K)] [(0,s)]:=⟨_,rfl⟩;have qc:FA 77 59 (.code (jC 124)::[.code (jC 125),.code (jC 63)]) [] .normal (told ρ yL) cF:=by
  rw[hs]at F3;rw[hρ];exact F3.sub fun x hx=>by
   simp only[told,yL,aU,List.map_nil,ai,aA,or_false]at hx;rcases hx with rfl|rfl|rfl|rfl|rfl|rfl
   ·exact cN rfl
   ·exact cN rfl
   ·exact cN rfl
   ·exact cN rfl
   ·exact cN rfl
   ·exact cN rfl
 have b0:cg ρ Ew:=by rw[hρ];exact⟨rfl,rfl,trivial⟩
 have b1:cg ρ IX:=by rw[hρ];exact⟨rfl,rfl,trivial⟩
 have m0:∀{w':World},bA w2 w'->cq ρ w' [(⟨(.dyn 80),(.plus (.tn (v 83)) (.lit 0))⟩,i64 (v 12)),(⟨(.dyn 80),(v 83)⟩,i64 (v 12))]:=fun f=>by rw[hρ];exact⟨f.cell k0,f.cell k0,trivial⟩
 have m1:∀{w':World},bA w2 w'->cq ρ w' [(⟨(.dyn 80),(.plus (.tn (v 83)) (.lit 1))⟩,i64 (v 13))]:=fun f=>by rw[hρ];exact⟨f.cell k1,trivial⟩
 refine(O_ (ρ:=ρ) (by rw[hρ];rfl) (by rw[hρ];rfl) (cg.app b0 (cg.app (bX (i:=10) (n:=51) (I:=cj) (N:=tree.length) (by rw[hρ];rfl) (by rw[hρ];rfl) Pe) (bX (i:=12) (n:=51) (I:=cj+1) (N:=tree.length) (by rw[hρ];rfl) (by rw[hρ];rfl) hla))) (cq.app (m0 f3) ⟨by rw[hρ];exact f13.cell (hel cj n hn).c0,by rw[hρ];exact f13.cell (hel (cj+1) _ hna).c0,trivial⟩) rfl qc).trans fun g4 w4 dh=>?_;obtain⟨eO,lv4,rfl,f4,F4,hb4,DO⟩:=dh;obtain⟨u,q,eu⟩:=DO 14 (by decide) rfl;have eu:u=(.bool (.cmp .eql (v 21) (v 22)):AV).ev ρ:=eu;have eu:u=.bool (decide (cm a.n.op=cm n.op)):=by rw[eu,hρ];rfl
 subst eu;have Qu:=F4.sub (jm:=[(0,s),(1,iV cj),(2,iV d),(8,bS K 0 2 c'),(9,iV d),(10,iV 0),(29,.bool (decide (cm a.n.op=cm n.op)))]) fun x hx=>by
  simp only[ai,aA,or_false]at hx;rw[hρ]at hb4;rcases hx with rfl|rfl|rfl|rfl|rfl|rfl|rfl
  ·rw[hs];exact hb4 _ (cN (k:=0) rfl)
  ·exact hb4 _ (cN (k:=1) rfl)
  ·exact hb4 _ (cN (k:=2) rfl)
  ·exact hb4 _ (cN (k:=8) rfl)
  ·exact hb4 _ (cN (k:=9) rfl)
  ·exact hb4 _ (cN (k:=10) rfl)
  ·exact q
 have f14:=f13.trans f4;have f24:=f3.trans f4;have zW:∀{w6:World} {dK:Frame} {mm kk:Int},mm=(if cm a.n.op=cm n.op then(cD a d).1 else oN n.op 0 a d)->kk=(if cm a.n.op=cm n.op then(cD a d).2 else 0)->bA w w6->FA 77 59 (.inRegion (opsOf (jC 126)) [9,10,11,12,13,14]::[.code .ret]) [] .normal [(10,iV kk),(46,iV mm),(47,s),(48,iV cj),(51,iV (cj+1+(flat a).length:Nat)),(54,iV (eT d kk))] dK->
   Goes (G dK cs) w6 fun g' w'=>∃fr' v,g'=G fr' cs∧de 77 fr' w' v∧bA w w'∧v=.tuple #[iV (cD (.nd n [a,b]) d).1,iV (cD (.nd n [a,b]) d).2]:=fun{w6 dK mm kk} hm hk f6 F6=>by
  have hkk:0≤kk∧kk≤(flat a).length:=by
   rw[hk];split
   ·have:=vw a d akC;omega
   ·omega
  have hwd:eT d kk=d+kk:=wJ (by omega);refine(akx.go (bO [] [] [(47,s),(48,iV cj),(51,iV (cj+1+(flat a).length:Nat)),(54,iV (eT d kk))]) (Q:=fun v w'=>v=iV (oN n.op 1 b (eT d kk))) F6 rfl fun w' f=>uT y9 (i:=1) (h.keep (f6.trans f)) hl hn (fun h=>by omega) (by decide) hwb hob (by omega) (by omega) b_).trans fun g7 w7 mW=>?_;obtain⟨qX,v,rfl,f7,rfl,F7⟩:=mW;refine(GV (x:=mm) (y:=oN n.op 1 b (eT d kk)) aky F7 (by decide) rfl rfl).trans fun g8 w8 BH=>?_;obtain⟨Np,rfl,rfl,F8⟩:=BH;refine(akz.go (bO [(15,kk),(16,max2 mm (oN n.op 1 b (eT d kk)))] [] []) F8 rfl trivial trivial).trans fun g9 w9 zA=>?_;obtain⟨I,B,E6,rfl,f9,F9,_⟩:=zA;refine(jo Xu F9 rfl rfl).mono fun g10 w10 Pg=>?_;obtain⟨R_,rfl,rfl,hL⟩:=Pg;refine⟨R_,_,rfl,hL,f6.trans (f7.trans f9),?_⟩;rw[XT (n:=n) (a:=a) (b:=b) (show cm n.op<3 from hr) h0 (by omega) hm hk];rfl
 have zm:∀{x y:Int},eT x 0=x->True:=fun _=>trivial;by_cases e:cm a.n.op=cm n.op
 ·rw[decide_eq_true e]at Qu;refine(akr.go ρ Qu (by rw[hρ];rfl) b0 (m0 f24)).trans fun g5 w5 eg=>?_;obtain⟨I,B,gn,rfl,f5,F5,_⟩:=eg;rw[hρ]at F5;refine(aks.go (bO [] [] [(31,s),(34,iV (cj+1:Nat)),(35,iV d)]) (Q:=fun v w'=>v=.tuple #[iV (cD a d).1,iV (cD a d).2]) F5 rfl fun w' f=>akB (by omega) (h.keep ((f14.trans f5).trans f)) hl hwa hoa h0 (by omega) oV).trans fun g6 w6 dz=>?_;obtain⟨dK,v,rfl,f6,rfl,F6⟩:=dz;obtain⟨σ,cr⟩:∃σ:Env,σ=bO [(81,(2:Nat)),(82,c'),(83,(0:Nat)),(10,cj),(11,d),(13,(cj+1+(flat a).length:Nat)),(14,(cD a d).1),(15,(cD a d).2)] [(80,K)] [(0,s)]:=⟨_,rfl⟩;refine(akv.go σ F6 (by rw[cr];rfl) (by rw[cr];exact⟨rfl,rfl,trivial⟩) ⟨by rw[cr];exact(f24.trans (f5.trans f6)).cell k1,trivial⟩).trans fun g7 w7 mW=>?_;obtain⟨I,B,qX,rfl,f7,F7,_⟩:=mW;rw[cr]at F7;exact zW (mm:=(cD a d).1) (kk:=(cD a d).2) (by rw[if_pos e]) (by rw[if_pos e]) (f14.trans (f5.trans (f6.trans f7))) F7
 ·rw[decide_eq_false e]at Qu;refine(akt.go ρ Qu (by rw[hρ];rfl) b0 (m0 f24)).trans fun g5 w5 eg=>?_;obtain⟨I,B,gn,rfl,f5,F5,_⟩:=eg;rw[hρ]at F5;refine(aku.go (bO [] [] [(39,s),(40,iV cj),(43,iV (cj+1:Nat)),(44,iV d)]) (Q:=fun v w'=>v=iV (oN n.op 0 a d)) F5 rfl fun w' f=>uT wY (i:=0) (h.keep ((f14.trans f5).trans f)) hl hn (fun _=>rfl) (by decide) hwa hoa h0 (by omega) oV).trans fun g6 w6 dz=>?_;obtain⟨dK,v,rfl,f6,rfl,F6⟩:=dz;obtain⟨σ,cr⟩:∃σ:Env,σ=bO [(81,(2:Nat)),(82,c'),(83,(0:Nat)),(10,cj),(11,d),(13,(cj+1+(flat a).length:Nat)),(14,oN n.op 0 a d)] [(80,K)] [(0,s)]:=⟨_,rfl⟩;refine(akw.go σ F6 (by rw[cr];rfl) (by rw[cr];exact⟨rfl,rfl,trivial⟩) ⟨by rw[cr];exact(f24.trans (f5.trans f6)).cell k1,trivial⟩).trans fun g7 w7 mW=>?_;obtain⟨I,B,qX,rfl,f7,F7,_⟩:=mW;rw[cr]at F7;exact zW (mm:=oN n.op 0 a d) (kk:=0) (by rw[if_neg e]) (by rw[if_neg e]) (f14.trans (f5.trans (f6.trans f7))) F7
theorem GZ{op d:Int}{i:Nat}{k:T}{ks:List T}{most:Int}(hr:¬cm op<3):fy op d i (k::ks) most 0=fy op d (i+1) ks (max2 most (oN op i k d)) 0:=by rw[fy];rw[if_neg (show ¬(cm op<3∧i=1)from fun h=>hr h.1),if_neg (show ¬(i=0∧cm op<3∧cm k.n.op=cm op)from fun h=>hr h.2.1)];congr 1;unfold oN;show max2 (max2 most (cD k (zI op i k d)).1) (zI op i k d)=_;simp only[nC];omega
theorem I7{n:Nd}{tree:List Nd}{s:Value}{cj K c':Nat}{d:Int}{all:List T}{js:List Nat}(h:cK w0 s tree)(hl:tree.length≤1000000)(hn:tree[cj]?=some n)(hr:¬cm n.op<3)(h3:cm n.op=3->all.length≤1)(h0:0≤d)(hlen:js.length=all.length)(hbig:all.length≤1000000)(hc:∀i j:Nat,js[i]?=some j->w0.cell? ⟨K,0+i,none⟩=some (iV j))(hj:∀(i j:Nat) (k:T),js[i]?=some j->all[i]?=some k->yN k∧vk k∧LR k∧d+1+2*(flat k).length≤100000000∧∃rest,tree.drop j=flat k++rest):
  ∀(r:List T) (i:Nat) {most:Int} {w:World} {fr:Frame},all.drop i=r->i≤all.length->bA w0 w->FA 53 66 OpH [] .normal [(0,s),(1,iV cj),(2,iV d),(8,bS K 0 js.length c'),(12,iV most),(13,iV i)] fr->
  Goes (G fr cs) w (Out 53 cs w0 fun v w'=>v=iV (fy n.op d i r most 0).1)
 |[],i,most,w,fr,hr',hi,fw,hf=>by have Gn:all.length≤i:=aW.1 hr';obtain⟨ρ,hρ⟩:∃ρ:Env,ρ=bO [(81,js.length),(82,c'),(83,(0:Nat)),(10,cj),(11,d),(14,most),(15,i)] [(80,K)] [(0,s)]:=⟨_,rfl⟩;refine aki.out GP ρ hf (by rw[hρ];rfl) ⟨by rw[hρ];exact decide_eq_false (by show ¬((i:Int)<((js.length:Nat):Int));omega),trivial⟩ trivial fw fun _ _ _ _=>?_;rw[hρ,fy];rfl
 |k::r,i,most,w,fr,hr',hi,fw,hf=>by obtain⟨hk,wu,hlt⟩:=dM hr';obtain⟨j,hjj⟩:∃j,js[i]?=some j:=⟨_,aa (by omega)⟩;obtain⟨o1,o2,o3,o4,rest,o5⟩:=hj i j k hjj hk;obtain⟨ρ,hρ⟩:∃ρ:Env,ρ=bO [(81,js.length),(82,c'),(83,(0:Nat)),(10,cj),(11,d),(14,most),(15,i),(16,j)] [(80,K)] [(0,s)]:=⟨_,rfl⟩;refine(ake.go ρ hf (by rw[hρ];rfl) (bX (i:=15) (n:=81) (I:=i) (N:=js.length) (by rw[hρ];rfl) (by rw[hρ];rfl) (by omega)) ⟨by rw[hρ];exact fw.cell (hc i j hjj),trivial⟩).trans fun g1 w1 hd=>?_;obtain⟨I,B,bR,rfl,f1,F1,_⟩:=hd;rw[hρ]at F1;refine(akf.go (bO [] [] [(55,s),(56,iV cj),(57,iV i),(61,iV j),(62,iV d)]) (Q:=fun v w'=>v=iV (oN n.op i k d)) F1 rfl fun w' f=>uT o1 (h.keep ((fw.trans f1).trans f)) hl hn (fun e=>by have:=h3 e;omega) (by omega) o2 o3 h0 o4 o5).trans fun g2 w2 b_=>?_;obtain⟨cE,v,rfl,f2,rfl,F2⟩:=b_;refine(GV (x:=most) (y:=oN n.op i k d) akg F2 (by decide) rfl rfl).trans fun g3 w3 cv=>?_;obtain⟨cF,rfl,rfl,F3⟩:=cv;refine(akh.go (bO [(10,cj),(11,d),(15,i)] [] [(0,s),(8,bS K 0 js.length c'),(12,iV (max2 most (oN n.op i k d)))]) F3 rfl trivial trivial).trans fun g4 w4 dh=>?_;obtain⟨I,B,eO,rfl,f4,F4,_⟩:=dh;rw[GZ hr];refine I7 (c':=c') h hl hn hr h3 h0 hlen hbig hc hj r (i+1) wu (by omega) (fw.trans (f1.trans (f2.trans f4))) ?_;rw[<-inc (i:=i) (by omega)];exact F4
theorem Sa{n:Nd}{ks:List T}(ih:∀k∈ks,yN k∧Pa k):yN (.nd n ks):=by
 intro w s tree cj d rest h hl hw hok h0 hb hd;have hn:tree[cj]?=some n:=kQ hd;have Pe:=(ak.1 hn).1;have oV:tree.drop (cj+1)=bY ks++rest:=by
  have:tree.drop cj=n::(bY ks++rest):=by rw[hd];simp[flat]
  exact(dM this).2.1
 have hfl:(flat (.nd n ks)).length=1+(bY ks).length:=by rw[flat,aC];omega
 rw[hfl]at hb;have W8:=f_ ks;have akE:(bY ks).length≤1000000:=by have:=congrArg aR oV;rw[an,br]at this;omega
 rcases h.ex with⟨_,e⟩|⟨A,o,c,hs,hc,hel⟩
 ·rw[e]at hn;cases hn
 have iK:=hel cj n hn;refine Goes.iY fun cs=>?_;obtain⟨ρ,hρ⟩:∃ρ:Env,ρ=bO [(51,tree.length),(52,c),(53,o),(10,cj),(11,d),(1,n.op),(2,n.n),(3,n.kids),(4,n.cj)] [(50,A)] []:=⟨_,rfl⟩;refine(aj5.go ρ (p9 Xp rfl s (iV cj) (iV d)) (by rw[hs,hρ];rfl) (bX (i:=10) (n:=51) (I:=cj) (N:=tree.length) (by rw[hρ];rfl) (by rw[hρ];rfl) Pe) ⟨by rw[hρ];exact iK.c0,by rw[hρ];exact iK.c1,by rw[hρ];exact iK.c2,by rw[hρ];exact iK.c3,trivial⟩).trans fun g1 w1 Pf=>?_;obtain⟨I,B,bR,rfl,f1,F1,bl,_⟩:=Pf;rw[hρ]at F1 bl;obtain⟨X,eX⟩:∃X,B 100=X:=⟨_,rfl⟩;have I8:w1.cell? ⟨X,0,none⟩=some (cY n.op):=by rw[<-eX];exact bG bl.1.2 (i:=0) rfl
 have fN:FA 53 66 (.inRegion (opsOf (iJ 14)) [2,3]::[.code (iJ 15)]) [] .normal [(0,s),(1,iV cj),(2,iV d),(7,bK X),(18,s),(19,iV cj)] bR:=by rw[<-eX,hs];exact F1
 refine(aj6.go (bO [] [] [(18,s),(19,iV cj)]) (Q:=fun v w'=>∃w1,bA w1 w'∧c7 w' w1.heap.size v ((fX (cj+1) ks).map Int.ofNat)) fN rfl fun w' f=>(qF (h.keep (f1.trans f)) hl hw hd).mono fun v w2 hd=>⟨hd.1,w',hd.1,hd.2⟩).trans fun g2 w2 Gq=>?_;obtain⟨cE,sk,rfl,f2,⟨wk,fk,hsk⟩,F2⟩:=Gq;refine(aj7.go (bO [(10,cj),(11,d),(1,n.op)] [(64,X)] [(0,s),(20,sk)]) F2 rfl trivial ⟨f2.cell I8,trivial⟩).trans fun g3 w3 cv=>?_;obtain⟨I,B,cF,rfl,f3,F3,_⟩:=cv;refine(aj8.go (bO [] [] [(22,cY n.op)]) (Q:=fun v w'=>v=iV (cm n.op)) F3 rfl fun w' f=>oo).trans fun g4 w4 dh=>?_;obtain⟨eO,v,rfl,f4,rfl,F4⟩:=dh;have f14:=f1.trans (f2.trans (f3.trans f4));have hk4:=x4 n.op;have row:∀{w5:World} {gn:Frame},cm n.op<3->bA w w5->FA 53 66 (.inRegion (opsOf (iJ 500)) [3,4,5,6,7,8]::[.code (iJ 501),.code (iJ 63)]) [] .normal [(31,s),(32,iV cj),(33,iV d)] gn->Goes (G gn cs) w5 (Out 53 cs w fun v w'=>v=iV (cD (.nd n ks) d).1):=fun{w5 gn} hr f5 F5=>by refine(aj'.go (bO [] [] [(31,s),(32,iV cj),(33,iV d)]) (Q:=fun v w'=>v=.tuple #[iV (cD (.nd n ks) d).1,iV (cD (.nd n ks) d).2]) F5 rfl fun w' f=>Pd ih hr (h.keep (f5.trans f)) hl hw hok h0 (by rw[hfl];exact hb) hd).trans fun g6 w6 dz=>?_;obtain⟨dK,v,rfl,f6,rfl,F6⟩:=dz;exact aka.out GP (bO [(12,(cD (.nd n ks) d).1),(13,(cD (.nd n ks) d).2)] [] []) F6 rfl trivial trivial (f5.trans f6) fun _ _ _ _=>rfl
 by_cases h1:cm n.op=1
 ·rw[h1]at F4;refine(aj9.go (bO [(10,cj),(11,d)] [] [(0,s),(8,sk)]) F4 rfl trivial trivial).trans fun g5 w5 eg=>?_;obtain⟨I,B,gn,rfl,f5,F5,_⟩:=eg;exact row (by omega) (f14.trans f5) F5
 by_cases h2:cm n.op=2
 ·rw[h2]at F4;refine(aj_.go (bO [(10,cj),(11,d)] [] [(0,s),(8,sk)]) F4 rfl trivial trivial).trans fun g5 w5 eg=>?_;obtain⟨I,B,gn,rfl,f5,F5,_⟩:=eg;exact row (by omega) (f14.trans f5) F5
 have hr:¬cm n.op<3:=by omega
 have h3:cm n.op=3->ks.length=1:=fun e=>by
  have hop:n.op=3:=by
   unfold cm at e
   repeat' (split at e)
   all_goals first
    |(exfalso;omega)
    |assumption
  have:=(om (hok (.nd n ks) (by rw[kP];exact aj ..))).2 (by rw[show(T.nd n ks).n=n from rfl,hop];decide);have:n.kids=bV n.op:=this;rw[hop]at this;have hk:n.kids=ks.length:=hw.1;rw[this]at hk;have:bV 3=1:=rfl;omega
 have eo:(cD (.nd n ks) d).1=(fy n.op (if ks≠[]then eT d 1 else d) 0 ks (if ks≠[]then eT d 1 else d) 0).1:=by
  rw[cD];dsimp only;by_cases hk:ks≠[]
  ·rw[if_pos ⟨by omega,hk⟩,if_pos hk]
  ·rw[if_neg (fun h=>hk h.2),if_neg hk]
 rw[eo];rcases hsk with⟨rfl,oE⟩|⟨hne,K,c',rfl,hK,hv⟩
 ·have hks:ks=[]:=by
   have:=congrArg aR oE;rw[aD,fV]at this;exact bg.1 this
  have h4:cm n.op=4:=by have:=h3;rw[hks]at this;simp only[aX]at this;omega
  rw[h4]at F4;refine(akd.go (bO [(10,cj),(11,d)] [] [(0,s)]) F4 rfl trivial trivial).trans fun g5 w5 eg=>?_;obtain⟨I,B,gn,rfl,f5,F5,_⟩:=eg;refine akj.out GP (bO [(10,cj),(11,d),(14,d)] [] [(0,s)]) F5 rfl trivial trivial (f14.trans f5) fun _ _ _ _=>?_;rw[hks,if_neg (by simp),fy];rfl
 ·have hks:ks≠[]:=fun e=>hne (by rw[e];rfl);rw[if_pos hks];have hwd:eT d 1=d+1:=wJ (by omega);obtain⟨js,C4⟩:∃js,js=fX (cj+1) ks:=⟨_,rfl⟩;have hjl:js.length=ks.length:=by rw[C4,fV]
  rw[<-C4]at hv F4;rw[aD]at F4;have hcell:∀{w5:World},bA w4 w5->∀i j:Nat,js[i]?=some j->w5.cell? ⟨K,0+i,none⟩=some (iV j):=fun{w5} f i j hj=>by rw[aF];refine f.cell ((f3.trans f4).cell (cy.cS hv ?_));show((js.map Int.ofNat).map iV)[i]?=_;rw[aL,aL,hj];rfl
  have go:∀{w5:World} {gn:Frame},bA w4 w5->FA 53 66 OpH [] .normal [(0,s),(1,iV cj),(2,iV (eT d 1)),(8,bS K 0 js.length c'),(12,iV (eT d 1)),(13,iV (0:Nat))] gn->Goes (G gn cs) w5 (Out 53 cs w fun v w'=>v=iV (fy n.op (eT d 1) 0 ks (eT d 1) 0).1):=fun{w5 gn} f5 F5=>by
   refine(I7 (w0:=w5) (c':=c') (all:=ks) (js:=js) (h.keep (f14.trans f5)) hl hn hr (fun e=>by rw[h3 e];exact ay _) (by omega) hjl (by omega) (hcell f5) (fun i j k hj hk=>?_) ks 0 rfl (by omega) (bA.refl _) F5).mono fun g6 w6 dz=>?_
   ·have hm:=az hk;have auQ:(flat k).length≤(bY ks).length:=by
     have:∀l:List T,k∈l->(flat k).length≤(bY l).length:=fun l=>by
      induction l with
      |nil=>intro h;cases h
      |cons a l ih=>
       intro h;rw[bY,an];rcases ai.1 h with rfl|h
       ·omega
       ·have:=ih h;omega
     exact this ks hm
    exact⟨(ih k hm).1,o9.mem hw.2 k hm,hok.kid k hm,by rw[hwd];omega,mH oV (C4▸hj) hk⟩
   ·obtain⟨dK,v,h1,h2,h3,h4⟩:=dz;exact⟨dK,v,h1,h2,f14.trans (f5.trans h3),h4⟩
  by_cases h33:cm n.op=3
  ·rw[h33]at F4;refine(akb.go (bO [(10,cj),(11,d)] [] [(0,s),(8,bS K 0 js.length c')]) F4 rfl trivial trivial).trans fun g5 w5 eg=>?_;obtain⟨I,B,gn,rfl,f5,F5,_⟩:=eg;exact go f5 F5
  ·have h4:cm n.op=4:=by omega
   rw[h4]at F4;obtain⟨σ,cr⟩:∃σ:Env,σ=bO [(10,cj),(11,d),(81,js.length),(82,c'),(83,(0:Nat))] [(80,K)] [(0,s)]:=⟨_,rfl⟩;refine(akc.go σ F4 (by rw[cr];rfl) ⟨by rw[cr];exact decide_eq_true (by have:=bq.2 hks;show((js.length:Nat):Int)>0;omega),trivial⟩ trivial).trans fun g5 w5 eg=>?_
   obtain⟨I,B,gn,rfl,f5,F5,_⟩:=eg;rw[cr]at F5;exact go f5 F5
end
mutual
theorem Ex:∀t:T,yN t∧Pa t
 |.nd n ks=>⟨Sa (uU ks),Pd (uU ks)⟩
theorem uU:∀ks:List T,∀k∈ks,yN k∧Pa k
 |[],k,h=>by cases h
 |k'::ks,k,h=>by
  rcases ai.1 h with e|h
  ·rw[e];exact Ex k'
  ·exact uU ks k h
end
end Go.Proofs.YtmobbajggkjpgaaGreat
