/-
  A symbolic run of the model, proved sound, and the walk of the code: a text of its parts. Conditions: none.
-/
import Derived.Test.YtmobbajggkjpgaaGreatGF
import Derived.Ground.NamesProg
import Derived.Ground.Names2Prog
import Derived.Shelf.Sort.Plain
import Derived.Shelf.Slices.In.SortNone
import Derived.Shelf.Slices.CompactI
import Derived.Shelf.Slices.Turned
set_option linter.unusedSectionVars false
set_option maxRecDepth 100000
set_option linter.unusedVariables false
set_option linter.unusedSimpArgs false
namespace Go.Proofs.YtmobbajggkjpgaaGreat
open Go.Proofs.YtmobbajggkjpgaaGreat.SX Go.Conc
open _root_.List renaming getElem?_eq_getElem->aa,mem_cons_of_mem->af,mem_singleton->ah,mem_cons->ai,mem_cons_self->aj,getElem?_eq_some_iff->ak,length_append->an,mem_of_getElem?->az,not_mem_nil->aA,length_map->aD,drop_eq_getElem_cons->aG,drop_of_length_le->aI,getElem?_map->aL,length->aR,mem_append->aT,append_nil->aV,drop_eq_nil_iff->aW,length_nil->aX,length_eq_zero_iff->bg,getD_eq_getElem?_getD->bn,length_pos_iff->bq,length_drop->br,map_append->bu,pairwise_singleton->bx
open _root_.Bool renaming and_eq_true->aq
open _root_.Option.some renaming inj->au
open _root_.Nat renaming le_trans->ax,le_refl->ay,zero_add->aF
noncomputable def dm(l:Nat):Code:=pc (bD Tryz.f51) (pd l)
theorem Ph:bT Tryz.prog 51 [.bF 0] .normal=.ok ⟨51,114,c_ 51 [.bF 0],[.code (bD Tryz.f51)],[],.run,.normal⟩:=by kernel_rfl
theorem oO:dL 51 114 2:=fun st=>by kernel_rfl
theorem adB:Pc 51 114 [.code (bD Tryz.f51)] ([(0,.bF 0)]) [] [] [] 8 [] [0,8] [.inRegion (opsOf (dm 12)) [1,2,3,4],.code (dm 13),.code (dm 7)] [.bF 0,.bF 0] []:={}
theorem Uh:dy 114 (opsOf (dm 12)) 1 [(8,.bF 8)] 74 [.bF 8,i64 (.lit 0)] 9:={}
noncomputable abbrev Pj:List Item:=[.inRegion (opsOf (dm 12)) [2,3,4],.code (dm 13),.code (dm 7)]
theorem adC(z:Bool):Pc 51 114 Pj ([(0,cU z 50 53 51 52),(9,i64 (v 20))]) [((.cmp .neq (v 20) (dO z 51)),true)] [] [] 9 [] [2] [.code .ret,.code (dm 7)] [FB] []:=by cases z<;>exact{}
noncomputable abbrev A0:List Item:=[.code (dm 116),.inLoop (dm 116),.inBlock 0,.code (dm 15)]
theorem akG:Pc 51 114 Pj ([(0,sA 50 53 51 52),(9,i64 (v 20))]) [((.cmp .neq (v 20) (.tn (v 51))),false)] [] [] 13 [] [0,3] A0 [sA 50 53 51 52,i64 (.lit 0)] []:={}
theorem akH:Pc 51 114 A0 ([(0,sA 50 53 51 52),(3,i64 (v 10))]) (fo 10 51) Xq [] 25 [100] [0,3,4,24] [.inRegion (opsOf (dm 3730)) [2,3],.code (dm 3731),.inBlock 1,.code (dm 467),.inLoop (dm 116),.inBlock 0,.code (dm 15)] [sA 50 53 51 52,i64 (v 10),bC 100,i8 (v 1)] Aq:={}
theorem akI:dy 114 (opsOf (dm 3730)) 2 [(24,.bF 24)] 52 [.bF 24] 25:={}
noncomputable abbrev XU:List Item:=[.code (dm 14925),.code (dm 7463),.inBlock 1,.code (dm 467),.inLoop (dm 116),.inBlock 0,.code (dm 15)]
theorem akJ(a b c d e f:Bool):Pc 51 114 [.inRegion (opsOf (dm 3730)) [3],.code (dm 3731),.inBlock 1,.code (dm 467),.inLoop (dm 116),.inBlock 0,.code (dm 15)] ([(0,sA 50 53 51 52),(3,i64 (v 10)),(4,bC 64),(25,i64 (v 20))]) [((.cmp .eql (v 20) (.lit (-2))),a),((.cmp .geq (v 20) (.lit 0)),b),((.cmp .neq (v 3) (v 20)),c),((.cmp .eql (v 20) (.lit (-1))),d),((.cmp .lss (v 3) (.lit 1)),e),((.cmp .lss (v 4) (.lit 0)),f)] qY [] 32 [] [0,3,4,5,51] XU [sA 50 53 51 52,i64 (v 10),bC 64,i64 (v 20),.bool (.lit (a||b&&c||d&&e||f))] []:=by cases a<;>cases b<;>cases c<;>cases d<;>cases e<;>cases f<;>exact{}
theorem adD:Pc 51 114 XU ([(0,sA 50 53 51 52),(3,i64 (v 10)),(4,bC 64),(5,i64 (v 20)),(51,TB)]) [] [] [] 5 [] [2] [.code .ret,.code (dm 7463),.inBlock 1,.code (dm 467),.inLoop (dm 116),.inBlock 0,.code (dm 15)] [FB] []:={}
noncomputable abbrev XV:List Item:=[.code (dm 29853),.code (dm 14927),.inBlock 1,.code (dm 467),.inLoop (dm 116),.inBlock 0,.code (dm 15)]
theorem akK(a b c d e:Bool):Pc 51 114 XU ([(0,sA 50 53 51 52),(3,i64 (v 10)),(4,bC 64),(5,i64 (v 20)),(51,FB)]) [((.cmp .eql (v 1) (.lit 1)),a),((.cmp .lss (v 2) (.lit 0)),b),((.cmp .neq (v 1) (.lit 1)),c),((.cmp .neq (v 1) (.lit 2)),d),((.cmp .neq (v 2) (.lit 0)),e)] qY [] 29 [] [0,3,4,5,74] XV [sA 50 53 51 52,i64 (v 10),bC 64,i64 (v 20),.bool (.lit (a&&b||c&&d&&e))] []:=by cases a<;>cases b<;>cases c<;>cases d<;>cases e<;>exact{}
theorem adE:Pc 51 114 XV ([(0,sA 50 53 51 52),(3,i64 (v 10)),(4,bC 64),(5,i64 (v 20)),(74,TB)]) [] [] [] 5 [] [2] [.code .ret,.code (dm 14927),.inBlock 1,.code (dm 467),.inLoop (dm 116),.inBlock 0,.code (dm 15)] [FB] []:={}
noncomputable abbrev XW:List Item:=[.code (dm 59709),.code (dm 29855),.inBlock 1,.code (dm 467),.inLoop (dm 116),.inBlock 0,.code (dm 15)]
theorem akL(a b c:Bool):Pc 51 114 XV ([(0,sA 50 53 51 52),(3,i64 (v 10)),(4,bC 64),(5,i64 (v 20)),(74,FB)]) [((.cmp .eql (v 1) (.lit 17)),a),((.cmp .eql (v 1) (.lit 18)),b),((.cmp .gtr (v 10) (.lit 0)),c)] qY [] 18 [] [0,3,4,5,86] XW [sA 50 53 51 52,i64 (v 10),bC 64,i64 (v 20),.bool (.lit ((a||b)&&c))] []:=by cases a<;>cases b<;>cases c<;>exact{}
theorem adF:Pc 51 114 XW ([(0,sA 50 53 51 52),(3,i64 (v 10)),(4,bC 64),(5,i64 (v 20)),(86,TB)]) [] [] [] 5 [] [2] [.code .ret,.code (dm 29855),.inBlock 1,.code (dm 467),.inLoop (dm 116),.inBlock 0,.code (dm 15)] [FB] []:={}
theorem adG:Pc 51 114 XW ([(0,sA 50 53 51 52),(3,i64 (v 10)),(4,bC 64),(5,i64 (v 20)),(86,FB)]) [] [] [] 6 [] [0,3,4,5,87,88] [.inRegion (opsOf (dm 59710)) [2,3],.code (dm 59711),.inBlock 1,.code (dm 467),.inLoop (dm 116),.inBlock 0,.code (dm 15)] [sA 50 53 51 52,i64 (v 10),bC 64,i64 (v 20),sA 50 53 51 52,i64 (v 10)] []:={}
theorem akM:dy 114 (opsOf (dm 59710)) 2 [(87,.bF 87),(88,.bF 88)] 75 [.bF 87,.bF 88] 89:={}
noncomputable abbrev vZ:List Item:=[.code (dm 477692),.inLoop (dm 477692),.inBlock 2,.inBlock 1,.code (dm 467),.inLoop (dm 116),.inBlock 0,.code (dm 15)]
theorem akN:Pc 51 114 [.inRegion (opsOf (dm 59710)) [3],.code (dm 59711),.inBlock 1,.code (dm 467),.inLoop (dm 116),.inBlock 0,.code (dm 15)] ([(0,sA 50 53 51 52),(3,i64 (v 10)),(4,bC 64),(5,i64 (v 20)),(89,.bF 89)]) [] [] [] 8 [] [0,3,4,5,6,7] vZ [sA 50 53 51 52,i64 (v 10),bC 64,i64 (v 20),.bF 89,i64 (.lit 0)] []:={}
noncomputable abbrev adH:List Item:=[.code .ret,.inBlock 3,.code (dm 1910771),.inLoop (dm 477692),.inBlock 2,.inBlock 1,.code (dm 467),.inLoop (dm 116),.inBlock 0,.code (dm 15)]
noncomputable abbrev K9:List (Nat×AV):=[(0,sA 50 53 51 52),(3,i64 (v 10)),(4,bC 64),(5,i64 (v 20)),(6,sA 80 83 81 82),(7,i64 (v 15))]
noncomputable abbrev A4:List (AA×AV):=[(eD 64 0,i8 (v 1)),(eC 80 83 15,i64 (v 16)),(eB 50 53 16 4,i8 (v 21))]
theorem adI:Pc 51 114 vZ (K9) [((.cmp .lss (v 15) (.tn (v 81))),true),((.cmp .leq (.lit 0) (v 15)),true),((.cmp .lss (v 15) (.lit 0)),false),((.cmp .geq (v 15) (.tn (v 81))),false),((.cmp .lss (v 16) (.tn (v 51))),true),((.cmp .leq (.lit 0) (v 16)),true),((.cmp .lss (v 16) (.lit 0)),false),((.cmp .geq (v 16) (.tn (v 51))),false),((.cmp .eql (v 20) (.lit (-1))),true),((.cmp .neq (v 21) (.lit 2)),true)] A4 [] 38 [] [2] adH [FB] []:={}
noncomputable abbrev Pk:List AV:=[sA 50 53 51 52,i64 (v 10),bC 64,i64 (v 20),sA 80 83 81 82,i64 (.op .add .i64 (v 15) (.lit 1))]
theorem adJ:Pc 51 114 vZ (K9) [((.cmp .lss (v 15) (.tn (v 81))),true),((.cmp .leq (.lit 0) (v 15)),true),((.cmp .lss (v 15) (.lit 0)),false),((.cmp .geq (v 15) (.tn (v 81))),false),((.cmp .lss (v 16) (.tn (v 51))),true),((.cmp .leq (.lit 0) (v 16)),true),((.cmp .lss (v 16) (.lit 0)),false),((.cmp .geq (v 16) (.tn (v 51))),false),((.cmp .eql (v 20) (.lit (-1))),true),((.cmp .neq (v 21) (.lit 2)),false)] A4 [] 42 [] [0,3,4,5,6,7] vZ Pk []:={}
theorem adK:Pc 51 114 vZ (K9) [((.cmp .lss (v 15) (.tn (v 81))),true),((.cmp .leq (.lit 0) (v 15)),true),((.cmp .lss (v 15) (.lit 0)),false),((.cmp .geq (v 15) (.tn (v 81))),false),((.cmp .lss (v 16) (.tn (v 51))),true),((.cmp .leq (.lit 0) (v 16)),true),((.cmp .lss (v 16) (.lit 0)),false),((.cmp .geq (v 16) (.tn (v 51))),false),((.cmp .eql (v 20) (.lit (-1))),false),((.cmp .eql (v 1) (.lit 18)),true),((.cmp .neq (v 21) (.lit 2)),true)] A4 [] 38 [] [2] adH [FB] []:={}
theorem adL:Pc 51 114 vZ (K9) [((.cmp .lss (v 15) (.tn (v 81))),true),((.cmp .leq (.lit 0) (v 15)),true),((.cmp .lss (v 15) (.lit 0)),false),((.cmp .geq (v 15) (.tn (v 81))),false),((.cmp .lss (v 16) (.tn (v 51))),true),((.cmp .leq (.lit 0) (v 16)),true),((.cmp .lss (v 16) (.lit 0)),false),((.cmp .geq (v 16) (.tn (v 51))),false),((.cmp .eql (v 20) (.lit (-1))),false),((.cmp .eql (v 1) (.lit 18)),true),((.cmp .neq (v 21) (.lit 2)),false)] A4 [] 42 [] [0,3,4,5,6,7] vZ Pk []:={}
theorem adM:Pc 51 114 vZ (K9) [((.cmp .lss (v 15) (.tn (v 81))),true),((.cmp .leq (.lit 0) (v 15)),true),((.cmp .lss (v 15) (.lit 0)),false),((.cmp .geq (v 15) (.tn (v 81))),false),((.cmp .lss (v 16) (.tn (v 51))),true),((.cmp .leq (.lit 0) (v 16)),true),((.cmp .lss (v 16) (.lit 0)),false),((.cmp .geq (v 16) (.tn (v 51))),false),((.cmp .eql (v 20) (.lit (-1))),false),((.cmp .eql (v 1) (.lit 18)),false)] A4 [] 42 [] [0,3,4,5,6,7] vZ Pk []:={}
noncomputable abbrev Ui:List AV:=[sA 50 53 51 52,i64 (.op .add .i64 (v 10) (.lit 1))]
theorem akO:Pc 51 114 vZ (K9) O6 [] [] 17 [] [0,3] A0 Ui []:={}
theorem adN:Pc 51 114 vZ ([(0,sA 50 53 51 52),(3,i64 (v 10)),(4,bC 64),(5,i64 (v 20)),(6,cn),(7,i64 (.lit 0))]) [] [] [] 17 [] [0,3] A0 Ui []:={}
theorem akP:Pc 51 114 A0 ([(0,sA 50 53 51 52),(3,i64 (v 10))]) Ao [] [] 14 [] [2] [.code .ret] [TB] []:={}
noncomputable abbrev ShH:List Item:=A0
noncomputable abbrev ShK:List Item:=vZ
section
variable {w w0:World}{cs:List Frame}{fr:Frame}
theorem I9{A o c X K c' i:Nat}{tree:List Nd}{n:Nd}{js:List Nat}{ops:List Int}(hel:∀i n,tree[i]?=some n->iI w0 A (o+i*4) n)(hX:w0.cell? ⟨X,0,none⟩=some (cY n.op))(hi:i≤1000000)(hlen:js.length=ops.length)(hbig:js.length≤1000000)(hc:∀i j:Nat,js[i]?=some j->w0.cell? ⟨K,0+i,none⟩=some (iV j))(hj:∀(k j:Nat) (p:Int),js[k]?=some j->ops[k]?=some p->∃m,tree[j]?=some m∧m.op=p):
  ∀(r:List Int) (k:Nat) {w:World} {fr:Frame},ops.drop k=r->k≤ops.length->bA w0 w->FA 51 114 ShK [] .normal [(0,bS A o tree.length c),(3,iV i),(4,bK X),(5,iV (bV n.op)),(6,bS K 0 js.length c'),(7,iV k)] fr->
  Goes (G fr cs) w fun g' w'=>∃fr',g'=G fr' cs∧bA w0 w'∧(((decide (bV n.op=-1)||decide (n.op=18))&&!(r.all fun p=>decide (p=2)))=true∧de 51 fr' w' (.bool false)∨((decide (bV n.op=-1)||decide (n.op=18))&&!(r.all fun p=>decide (p=2)))=false∧FA 51 114 ShH [] .normal [(0,bS A o tree.length c),(3,iV (i+1:Nat))] fr')
 |[],k,w,fr,hr,hk,fw,hf=>by have Gn:ops.length≤k:=aW.1 hr;obtain⟨ρ,hρ⟩:∃ρ:Env,ρ=bO [(51,tree.length),(52,c),(53,o),(10,i),(20,bV n.op),(81,js.length),(82,c'),(83,(0:Nat)),(15,k)] [(50,A),(64,X),(80,K)] []:=⟨_,rfl⟩;refine(akO.go ρ hf (by rw[hρ];rfl) ⟨by rw[hρ];exact decide_eq_false (by show ¬((k:Int)<((js.length:Nat):Int));omega),trivial⟩ trivial).mono fun g1 w1 hd=>?_;obtain⟨I,B,bR,rfl,f1,F1,_⟩:=hd;rw[hρ]at F1;refine⟨bR,rfl,fw.trans f1,.inr ⟨by simp,?_⟩⟩;rw[<-inc (i:=i) (by omega)];exact F1
 |p::r,k,w,fr,hr,hk,fw,hf=>by
  obtain⟨hp,wu,hlt⟩:=dM hr;obtain⟨j,hjj⟩:∃j,js[k]?=some j:=⟨_,aa (by omega)⟩;obtain⟨m,hm,hmp⟩:=hj k j p hjj hp;have hlj:=(ak.1 hm).1;obtain⟨ρ,hρ⟩:∃ρ:Env,ρ=bO [(51,tree.length),(52,c),(53,o),(10,i),(20,bV n.op),(81,js.length),(82,c'),(83,(0:Nat)),(15,k),(16,j),(1,n.op),(21,p)] [(50,A),(64,X),(80,K)] []:=⟨_,rfl⟩;have bb:=cg.app (bX (ρ:=ρ) (i:=15) (n:=81) (I:=k) (N:=js.length) (by rw[hρ];rfl) (by rw[hρ];rfl) (by omega)) (bX (ρ:=ρ) (i:=16) (n:=51) (I:=j) (N:=tree.length) (by rw[hρ];rfl) (by rw[hρ];rfl) hlj);have mm:cq ρ w A4:=by rw[hρ];refine⟨fw.cell hX,fw.cell (hc k j hjj),?_,trivial⟩;rw[<-hmp];exact fw.cell (hel j m hm).c0
  have next:∀{w1:World} {bR:Frame},((decide (bV n.op=-1)||decide (n.op=18))&&!(decide (p=2)))=false->bA w w1->FA 51 114 ShK [] .normal [(0,bS A o tree.length c),(3,iV i),(4,bK X),(5,iV (bV n.op)),(6,bS K 0 js.length c'),(7,iV (iz .add .i64 k 1))] bR->
    Goes (G bR cs) w1 fun g' w'=>∃fr',g'=G fr' cs∧bA w0 w'∧(((decide (bV n.op=-1)||decide (n.op=18))&&!((p::r).all fun p=>decide (p=2)))=true∧de 51 fr' w' (.bool false)∨((decide (bV n.op=-1)||decide (n.op=18))&&!((p::r).all fun p=>decide (p=2)))=false∧FA 51 114 ShH [] .normal [(0,bS A o tree.length c),(3,iV (i+1:Nat))] fr'):=fun{w1 bR} hb f1 F1=>by
   have e:((decide (bV n.op=-1)||decide (n.op=18))&&!((p::r).all fun p=>decide (p=2)))=((decide (bV n.op=-1)||decide (n.op=18))&&!(r.all fun p=>decide (p=2))):=by
    rw[List.all_cons];generalize(decide (bV n.op=-1)||decide (n.op=18))=x at hb⊢;generalize decide (p=2)=y at hb⊢;cases x
    ·rfl
    ·cases y
     ·cases hb
     ·rfl
   rw[e];refine I9 (c':=c') hel hX hi hlen hbig hc hj r (k+1) wu (by omega) (fw.trans f1) ?_;rw[<-inc (i:=k) (by omega)];exact F1
  have bad:∀{g1:Goroutine} {w1:World},((decide (bV n.op=-1)||decide (n.op=18))&&!(decide (p=2)))=true->Out 51 cs w0 (fun v _=>v=.bool false) g1 w1->∃fr',g1=G fr' cs∧bA w0 w1∧(((decide (bV n.op=-1)||decide (n.op=18))&&!((p::r).all fun p=>decide (p=2)))=true∧de 51 fr' w1 (.bool false)∨((decide (bV n.op=-1)||decide (n.op=18))&&!((p::r).all fun p=>decide (p=2)))=false∧FA 51 114 ShH [] .normal [(0,bS A o tree.length c),(3,iV (i+1:Nat))] fr'):=fun{g1 w1} hb hO=>by
   obtain⟨bR,v,rfl,hL,f1,rfl⟩:=hO;refine⟨bR,rfl,f1,.inl ⟨?_,hL⟩⟩;rw[List.all_cons];generalize(decide (bV n.op=-1)||decide (n.op=18))=x at hb⊢;generalize decide (p=2)=y at hb⊢;cases x
   ·cases hb
   ·cases y
    ·rfl
    ·cases hb
  by_cases h1:bV n.op=-1
  ·by_cases h2:p=2
   ·refine(adJ.go ρ hf (by rw[hρ];rfl) (cg.app bb ⟨by rw[hρ];exact decide_eq_true h1,by rw[hρ];show(!decide (p=2))=false;rw[decide_eq_true h2];rfl,trivial⟩) mm).trans fun g1 w1 hd=>?_;obtain⟨I,B,bR,rfl,f1,F1,_⟩:=hd;rw[hρ]at F1;exact next (by rw[decide_eq_true h2];simp) f1 F1
   ·exact(adI.out (Q:=fun v _=>v=.bool false) oO ρ hf (by rw[hρ];rfl) (cg.app bb ⟨by rw[hρ];exact decide_eq_true h1,by rw[hρ];show(!decide (p=2))=true;rw[decide_eq_false h2];rfl,trivial⟩) mm fw fun _ _ _ _=>rfl).mono fun g1 w1 hO=>bad (by rw[decide_eq_true h1,decide_eq_false h2];rfl) hO
  ·by_cases h3:n.op=18
   ·by_cases h2:p=2
    ·refine(adL.go ρ hf (by rw[hρ];rfl) (cg.app bb ⟨by rw[hρ];exact decide_eq_false h1,by rw[hρ];exact decide_eq_true h3,by rw[hρ];show(!decide (p=2))=false;rw[decide_eq_true h2];rfl,trivial⟩) mm).trans fun g1 w1 hd=>?_;obtain⟨I,B,bR,rfl,f1,F1,_⟩:=hd;rw[hρ]at F1;exact next (by rw[decide_eq_true h2];simp) f1 F1
    ·exact(adK.out (Q:=fun v _=>v=.bool false) oO ρ hf (by rw[hρ];rfl) (cg.app bb ⟨by rw[hρ];exact decide_eq_false h1,by rw[hρ];exact decide_eq_true h3,by rw[hρ];show(!decide (p=2))=true;rw[decide_eq_false h2];rfl,trivial⟩) mm fw fun _ _ _ _=>rfl).mono fun g1 w1 hO=>bad (by rw[decide_eq_true h3,decide_eq_false h2];simp) hO
   ·refine(adM.go ρ hf (by rw[hρ];rfl) (cg.app bb ⟨by rw[hρ];exact decide_eq_false h1,by rw[hρ];exact decide_eq_false h3,trivial⟩) mm).trans fun g1 w1 hd=>?_;obtain⟨I,B,bR,rfl,f1,F1,_⟩:=hd;rw[hρ]at F1;exact next (by rw[decide_eq_false h1,decide_eq_false h3];rfl) f1 F1
theorem I_{A o c:Nat}{t:T}{tree:List Nd}(hw:vk t)(htr:tree=flat t)(hel:∀i n,tree[i]?=some n->iI w0 A (o+i*4) n)(htc:tree.length≤c)(hl:tree.length≤1000000):
  ∀(r:List T) (i:Nat) {w:World} {fr:Frame},(kP t).drop i=r->i≤tree.length->bA w0 w->FA 51 114 ShH [] .normal [(0,bS A o tree.length c),(3,iV i)] fr->
  Goes (G fr cs) w (Out 51 cs w0 fun v w'=>v=.bool (tZ i r))
 |[],i,w,fr,hr,hi,fw,hf=>by have Gn:(kP t).length≤i:=aW.1 hr;rw[ua,<-htr]at Gn;obtain⟨ρ,hρ⟩:∃ρ:Env,ρ=bO [(51,tree.length),(52,c),(53,o),(10,i)] [(50,A)] []:=⟨_,rfl⟩;exact akP.out oO ρ hf (by rw[hρ];rfl) ⟨by rw[hρ];exact decide_eq_false (by show ¬((i:Int)<((tree.length:Nat):Int));omega),trivial⟩ trivial fw fun _ _ _ _=>rfl
 |s'::r,i,w,fr,hr,hi,fw,hf=>by
  obtain⟨hs,wu,hlt⟩:=dM hr;rw[ua,<-htr]at hlt;obtain⟨rest,hdr⟩:=Ei t [] hs;rw[aV,<-htr]at hdr;have hws:=IL t hw s' (az hs);obtain⟨n,ks,rfl⟩:∃n ks,s'=.nd n ks:=by cases s' with|nd n ks=>exact⟨n,ks,rfl⟩
  have hn:tree[i]?=some n:=kQ hdr;have iK:=(hel i n hn).keep fw;obtain⟨ρ,hρ⟩:∃ρ:Env,ρ=bO [(51,tree.length),(52,c),(53,o),(10,i),(1,n.op),(2,n.n),(3,n.kids),(4,n.cj)] [(50,A)] []:=⟨_,rfl⟩;refine(akH.go ρ hf (by rw[hρ];rfl) (bX (i:=10) (n:=51) (I:=i) (N:=tree.length) (by rw[hρ];rfl) (by rw[hρ];rfl) hlt) ⟨by rw[hρ];exact iK.c0,by rw[hρ];exact iK.c1,by rw[hρ];exact iK.c2,by rw[hρ];exact iK.c3,trivial⟩).trans fun g1 w1 hd=>?_;obtain⟨I,B,bR,rfl,f1,F1,bl,_⟩:=hd;rw[hρ]at F1 bl;obtain⟨X,eX⟩:∃X,B 100=X:=⟨_,rfl⟩;have hX:(cy.obj 77 [cY n.op,iV n.n,iV n.kids,iV n.cj]).at Tryz.prog w1 X:=by rw[<-eX];exact bl.1.2
  have fN:FA 51 114 (.inRegion (opsOf (dm 3730)) [2,3]::[.code (dm 3731),.inBlock 1,.code (dm 467),.inLoop (dm 116),.inBlock 0,.code (dm 15)]) [] .normal [(0,bS A o tree.length c),(3,iV i),(4,bK X),(24,cY n.op)] bR:=by rw[<-eX];exact F1
  refine(akI.go (bO [] [] [(24,cY n.op)]) (Q:=fun v w'=>v=iV (bV n.op)) fN rfl fun w' f=>AY).trans fun g2 w2 b_=>?_;obtain⟨cE,v,rfl,f2,rfl,F2⟩:=b_;obtain⟨σ,cr⟩:∃σ:Env,σ=bO [(51,tree.length),(52,c),(53,o),(10,i),(1,n.op),(2,n.n),(3,n.kids),(4,n.cj),(20,bV n.op)] [(50,A),(64,X)] []:=⟨_,rfl⟩;have hm:∀{w':World},bA w1 w'->cq σ w' qY:=fun f=>by rw[cr];exact⟨f.cell (bG hX (i:=0) rfl),f.cell (bG hX (i:=1) rfl),f.cell (bG hX (i:=2) rfl),f.cell (bG hX (i:=3) rfl),trivial⟩
  refine((akJ (decide (bV n.op=-2)) (decide (bV n.op≥0)) (!decide (n.kids=bV n.op)) (decide (bV n.op=-1)) (decide (n.kids<1)) (decide (n.cj<0))).go σ F2 (by rw[cr];rfl) ⟨by rw[cr];rfl,by rw[cr];rfl,by rw[cr];rfl,by rw[cr];rfl,by rw[cr];rfl,by rw[cr];rfl,trivial⟩ (hm f2)).trans fun g3 w3 cv=>?_;obtain⟨I,B,cF,rfl,f3,F3,_⟩:=cv;rw[cr]at F3;have vV:=fw.trans (f1.trans (f2.trans f3));have f13:=f2.trans f3;have hI:tZ i (.nd n ks::r)=(m5 (decide (i=0)) (.nd n ks)&&tZ (i+1) r):=rfl;rw[hI];have hB:m5 (decide (i=0)) (.nd n ks)=(!(decide (bV n.op=-2)||decide (bV n.op≥0)&&(!decide (n.kids=bV n.op))||decide (bV n.op=-1)&&decide (n.kids<1)||decide (n.cj<0))&&(!(decide (n.op=1)&&decide (n.n<0)||(!decide (n.op=1))&&(!decide (n.op=2))&&(!decide (n.n=0)))&&(!((decide (n.op=17)||decide (n.op=18))&&decide ((i:Int)>0))&&!((decide (bV n.op=-1)||decide (n.op=18))&&!((ks.map fun k=>k.n.op).all fun p=>decide (p=2)))))):=by
   unfold m5 vX;show(((!(_||(_||_)||_))&&_)&&_&&_)=_;have e0:decide ((i:Int)>0)=!decide (i=0):=by
    by_cases h:i=0
    ·rw[decide_eq_true h,decide_eq_false (by omega)];rfl
    ·rw[decide_eq_false h,decide_eq_true (by omega)];rfl
   rw[e0,List.all_map];show _=(_&&(_&&(_&&!(_&&!(ks.all fun k=>decide (k.n.op=2))))));rw[show(T.nd n ks).n=n from rfl,show(T.nd n ks).ks=ks from rfl];generalize decide (bV n.op=-2)=a1;generalize(decide (bV n.op≥0)&&!decide (n.kids=bV n.op))=a2;generalize(decide (bV n.op=-1)&&decide (n.kids<1))=a3;generalize decide (n.cj<0)=a4;generalize(decide (n.op=1)&&decide (n.n<0)||(!decide (n.op=1))&&(!decide (n.op=2))&&(!decide (n.n=0)))=a5;generalize(ks.all fun k=>decide (k.n.op=2))=a6;generalize decide (i=0)=a7;generalize(decide (bV n.op=-1)||decide (n.op=18))=a8;generalize(decide (n.op=17)||decide (n.op=18))=a9;cases a1<;>cases a2<;>cases a3<;>cases a4<;>cases a5<;>cases a6<;>cases a7<;>cases a8<;>cases a9<;>rfl
  rw[hB];cases e6:(decide (bV n.op=-2)||decide (bV n.op≥0)&&(!decide (n.kids=bV n.op))||decide (bV n.op=-1)&&decide (n.kids<1)||decide (n.cj<0))with
  |true=>rw[e6]at F3;exact adD.out oO σ F3 (by rw[cr];rfl) trivial trivial vV fun _ _ _ _=>rfl
  |false=>
  rw[e6]at F3;refine((akK (decide (n.op=1)) (decide (n.n<0)) (!decide (n.op=1)) (!decide (n.op=2)) (!decide (n.n=0))).go σ F3 (by rw[cr];rfl) ⟨by rw[cr];rfl,by rw[cr];rfl,by rw[cr];rfl,by rw[cr];rfl,by rw[cr];rfl,trivial⟩ (hm f13)).trans fun g4 w4 dh=>?_;obtain⟨I,B,eO,rfl,f4,F4,_⟩:=dh;rw[cr]at F4;have f14:=f13.trans f4;cases e7:(decide (n.op=1)&&decide (n.n<0)||(!decide (n.op=1))&&(!decide (n.op=2))&&(!decide (n.n=0)))with
  |true=>rw[e7]at F4;exact adE.out oO σ F4 (by rw[cr];rfl) trivial trivial (vV.trans f4) fun _ _ _ _=>rfl
  |false=>
  rw[e7]at F4;refine((akL (decide (n.op=17)) (decide (n.op=18)) (decide ((i:Int)>0))).go σ F4 (by rw[cr];rfl) ⟨by rw[cr];rfl,by rw[cr];rfl,by rw[cr];rfl,trivial⟩ (hm f14)).trans fun g5 w5 eg=>?_;obtain⟨I,B,gn,rfl,f5,F5,_⟩:=eg;rw[cr]at F5;have f15:=f14.trans f5;have uk:=vV.trans (f4.trans f5);cases e8:((decide (n.op=17)||decide (n.op=18))&&decide ((i:Int)>0))with
  |true=>rw[e8]at F5;exact adF.out oO σ F5 (by rw[cr];rfl) trivial trivial uk fun _ _ _ _=>rfl
  |false=>
  rw[e8]at F5;refine(adG.go σ F5 (by rw[cr];rfl) trivial trivial).trans fun g6 w6 dz=>?_;obtain⟨I,B,dK,rfl,f6,F6,_⟩:=dz;rw[cr]at F6;have BW:=uk.trans f6;refine(akM.go (bO [] [] [(87,bS A o tree.length c),(88,iV i)]) (Q:=fun v w'=>∃w1,bA w1 w'∧c7 w' w1.heap.size v ((fX (i+1) ks).map Int.ofNat)) F6 rfl fun w' f=>(qF (s:=bS A o tree.length c) (tree:=tree) ⟨.inr ⟨A,o,c,rfl,htc,fun i n hi=>(hel i n hi).keep (BW.trans f)⟩⟩ hl hws hdr).mono fun v w2 hd=>⟨hd.1,w',hd.1,hd.2⟩).trans fun g7 w7 mW=>?_;obtain⟨qX,sk,rfl,f7,⟨wk,fk,hsk⟩,F7⟩:=mW;refine(akN.go (bO [(51,tree.length),(52,c),(53,o),(10,i),(20,bV n.op)] [(50,A),(64,X)] [(89,sk)]) F7 rfl trivial trivial).trans fun g8 w8 BH=>?_;obtain⟨I,B,Np,rfl,f8,F8,_⟩:=BH;have Pm:=BW.trans (f7.trans f8);have next:∀{w9:World} {E6:Frame},bA w0 w9->FA 51 114 ShH [] .normal [(0,bS A o tree.length c),(3,iV (i+1:Nat))] E6->Goes (G E6 cs) w9 (Out 51 cs w0 fun v w'=>v=.bool (tZ (i+1) r)):=fun{w9 E6} f9 F9=>I_ hw htr hel htc hl r (i+1) wu (by omega) f9 F9;rcases hsk with⟨rfl,oE⟩|⟨hne,K,c',rfl,hK,hv⟩
  ·have hks:ks=[]:=by
    have:=congrArg aR oE;rw[aD,fV]at this;exact bg.1 this
   refine(adN.go (bO [(51,tree.length),(52,c),(53,o),(10,i),(20,bV n.op)] [(50,A),(64,X)] []) F8 rfl trivial trivial).trans fun g9 w9 zA=>?_;obtain⟨I,B,E6,rfl,f9,F9,_⟩:=zA;refine(next (Pm.trans f9) (by rw[<-inc (i:=i) (by omega)];exact F9)).mono fun g' w' hO=>?_;obtain⟨fr',v,h1,h2,h3,h4⟩:=hO;refine⟨fr',v,h1,h2,h3,?_⟩;rw[h4,hks];simp
  ·obtain⟨js,C4⟩:∃js,js=fX (i+1) ks:=⟨_,rfl⟩;have hjl:js.length=ks.length:=by rw[C4,fV]
   rw[<-C4]at hv F8;rw[aD]at F8;have adP:tree.drop (i+1)=bY ks++rest:=by
    have:tree.drop i=n::(bY ks++rest):=by rw[hdr];simp[flat]
    exact(dM this).2.1
   have W8:=f_ ks;have hle:(bY ks).length≤tree.length:=by have:=congrArg aR adP;rw[an,br]at this;omega
   refine(I9 (w0:=w8) (c':=c') (K:=K) (X:=X) (n:=n) (js:=js) (ops:=ks.map fun k=>k.n.op) (fun i n hi=>(hel i n hi).keep Pm) ((f15.trans (f6.trans (f7.trans f8))).cell (bG hX (i:=0) rfl)) (by omega) (by rw[aD,hjl]) (by omega) (fun a b hab=>?_) (fun a b p ha hp=>?_) (ks.map fun k=>k.n.op) 0 rfl (by omega) (bA.refl _) F8).trans fun g9 w9 zA=>?_
   ·rw[aF];refine f8.cell (cy.cS hv ?_);show((js.map Int.ofNat).map iV)[a]?=_;rw[aL,aL,hab];rfl
   ·rw[aL]at hp;obtain⟨k,hk,rfl⟩:=Option.map_eq_some_iff.1 hp;obtain⟨rest',hr'⟩:=mH adP (C4▸ha) hk;exact⟨k.n,kQ hr',rfl⟩
   ·obtain⟨E6,rfl,f9,⟨hb,hL⟩|⟨hb,F9⟩⟩:=zA
    ·refine .here ⟨E6,_,rfl,hL,Pm.trans f9,?_⟩;rw[hb];rfl
    ·refine(next (Pm.trans f9) F9).mono fun g' w' hO=>?_;obtain⟨fr',v,h1,h2,h3,h4⟩:=hO;refine⟨fr',v,h1,h2,h3,?_⟩;rw[h4,hb];rfl
theorem Ey{s:Value}{tree:List Nd}(h:cK w s tree)(hl:tree.length≤1000000):dV 51 #[s] w fun v w'=>bA w w'∧v=.bool (iy tree):=by
 refine Goes.iY fun cs=>?_;refine(adB.go (bO [] [] [(0,s)]) (cC Ph rfl s) rfl trivial trivial).trans fun g1 w1 hd=>?_;obtain⟨I,B,bR,rfl,f1,F1,_⟩:=hd;refine(Uh.go (bO [] [] [(8,s)]) (Q:=fun v w'=>v=iV (qK tree 0 1)) F1 rfl fun w' f=>vB (i:=0) (h.keep (f1.trans f)) hl (Nat.zero_le _)).trans fun g2 w2 b_=>?_;obtain⟨cE,v,rfl,f2,rfl,F2⟩:=b_;have f12:=f1.trans f2;rcases h.ex with⟨rfl,rfl⟩|⟨A,o,c,rfl,hc,hel⟩
 ·exact(adC true).out oO (bO [(20,-1)] [] []) F2 rfl ⟨rfl,trivial⟩ trivial f12 fun _ _ _ _=>rfl
 ·obtain⟨ρ,hρ⟩:∃ρ:Env,ρ=bO [(51,tree.length),(52,c),(53,o),(20,qK tree 0 1)] [(50,A)] []:=⟨_,rfl⟩;have hbe:qK tree 0 1=tree.length↔qg tree.length 1 tree=some []:=by
   unfold qK;rw[List.drop_zero];cases e:qg tree.length 1 tree with
   |none=>simp
   |some r=>
    dsimp only;constructor
    ·intro h;have:r.length=0:=by omega
     rw[bg.1 this]
    ·intro h;cases h;simp
  by_cases hb:qg tree.length 1 tree=some []
  ·obtain⟨t,hw,ht⟩:=Eh hb;refine(akG.go ρ F2 (by rw[hρ];rfl) ⟨by rw[hρ];show(!decide (qK tree 0 1=((tree.length:Nat):Int)))=false;rw[decide_eq_true (hbe.2 hb)];rfl,trivial⟩ trivial).trans fun g3 w3 cv=>?_;obtain⟨I,B,cF,rfl,f3,F3,_⟩:=cv;rw[hρ]at F3;rw[show iy tree=tZ 0 (kP t) by rw[ht];exact KY hw];exact I_ hw ht hel hc hl (kP t) 0 rfl (by omega) (f12.trans f3) F3
  ·rw[GL hb];exact(adC false).out oO ρ F2 (by rw[hρ];rfl) ⟨by rw[hρ];show(!decide (qK tree 0 1=((tree.length:Nat):Int)))=true;rw[decide_eq_false fun h=>hb (hbe.1 h)];rfl,trivial⟩ trivial f12 fun _ _ _ _=>rfl
end
noncomputable def cu(l:Nat):Code:=pc (bD Tryz.f29) (pd l)
theorem XY:bT Tryz.prog 29 [.bF 0] .normal=.ok ⟨29,147,c_ 29 [.bF 0],[.code (bD Tryz.f29)],[],.run,.normal⟩:=by kernel_rfl
theorem G0:p6 29 147 2 3:=fun st=>by kernel_rfl
noncomputable abbrev Ez:List Item:=[.code (cu 52),.inLoop (cu 52),.inBlock 0,.code (cu 7)]
theorem akQ(z:Bool):Pc 29 147 [.code (bD Tryz.f29)] ([(0,.agg [cU z 50 53 51 52,.bF 9])]) [] [] [] 13 [100] [1,4] Ez [bC 100,i64 (.lit 0)] [(100,.cells [cU z 50 53 51 52,.bF 9] 25)]:=by cases z<;>exact{}
theorem akR:Pc 29 147 Ez ([(1,bC 64),(4,i64 (v 10))]) (fo 10 51) [(eD 64 0,sA 50 53 51 52),(eB 50 53 10 3,ss 1),(eA 50 53 10 3 1,.bF 7),(eA 50 53 10 3 2,i64 (v 9))] [] 21 [100] [1,4,5,20] [.inRegion (opsOf (cu 840)) [6],.code (cu 841),.inBlock 1,.code (cu 211),.inLoop (cu 52),.inBlock 0,.code (cu 7)] [bC 64,i64 (v 10),bC 100,.agg [ss 1,.bF 7,i64 (v 9)]] [(100,.cells [.str ⟨#[]⟩,cn,i64 (.lit 0)] 50)]:={}
theorem adQ:j7 147 (opsOf (cu 840)) 6 [] (.store 50 (.tmp 5) (.tmp 20)) 0 none:={}
noncomputable abbrev adR:List Item:=[.inRegion (opsOf (cu 840)) [],.code (cu 841),.inBlock 1,.code (cu 211),.inLoop (cu 52),.inBlock 0,.code (cu 7)]
theorem akS:Pc 29 147 adR ([(1,bC 64),(4,i64 (v 10)),(5,bC 65)]) NM [] [] 14 [] [2,3] [.code .ret,.code (cu 1683),.inBlock 1,.code (cu 211),.inLoop (cu 52),.inBlock 0,.code (cu 7)] [i64 (.lit 34),i64 (v 10)] []:={}
theorem adS:Pc 29 147 adR ([(1,bC 64),(4,i64 (v 10)),(5,bC 65)]) [((.cmp .geq (v 10) (.lit 4096)),false)] [(eD 65 0,ss 1)] [] 14 [] [1,4,5,25] [.inRegion (opsOf (cu 6732)) [2,3,4,5,6,7,8,9,10,11],.code (cu 6733),.code (cu 3367),.inBlock 1,.code (cu 211),.inLoop (cu 52),.inBlock 0,.code (cu 7)] [bC 64,i64 (v 10),bC 65,ss 1] []:={}
theorem akT:dy 147 (opsOf (cu 6732)) 2 [(25,.bF 25)] 49 [.bF 25] 26:={}
noncomputable abbrev adT:List Item:=[.inRegion (opsOf (cu 6732)) [3,4,5,6,7,8,9,10,11],.code (cu 6733),.code (cu 3367),.inBlock 1,.code (cu 211),.inLoop (cu 52),.inBlock 0,.code (cu 7)]
noncomputable abbrev adU:List Item:=[.code .ret,.code (cu 3367),.inBlock 1,.code (cu 211),.inLoop (cu 52),.inBlock 0,.code (cu 7)]
noncomputable abbrev Ja:List AV:=[i64 (.lit 43),i64 (v 10)]
theorem akU:Pc 29 147 adT ([(1,bC 64),(4,i64 (v 10)),(5,bC 65),(26,FB)]) [] [] [] 17 [] [2,3] adU Ja []:={}
theorem akV:Pc 29 147 adT ([(1,bC 64),(4,i64 (v 10)),(5,bC 65),(26,TB)]) [] [(eD 64 0,.bF 8),(eD 64 1,.bF 9),(eD 65 0,ss 1)] [] 5 [] [1,4,5,28,29,31] [.inRegion (opsOf (cu 6732)) [8,9,10,11],.code (cu 6733),.code (cu 3367),.inBlock 1,.code (cu 211),.inLoop (cu 52),.inBlock 0,.code (cu 7)] [bC 64,i64 (v 10),bC 65,FB,.agg [.bF 8,.bF 9],ss 1] []:={}
theorem akW:dy 147 (opsOf (cu 6732)) 8 [(28,FB),(29,.bF 29),(31,.bF 31)] 50 [.bF 29,.bF 31] 32:={}
noncomputable abbrev XZ:List Item:=[.inRegion (opsOf (cu 6732)) [9,10,11],.code (cu 6733),.code (cu 3367),.inBlock 1,.code (cu 211),.inLoop (cu 52),.inBlock 0,.code (cu 7)]
noncomputable abbrev Pn:List (Nat×AV):=[(1,bC 64),(4,i64 (v 10)),(5,bC 65),(28,FB),(32,i64 (v 20))]
theorem akX:Pc 29 147 XZ (Pn) [((.cmp .lss (v 20) (v 10)),true)] [] [] 11 [] [2,3] adU Ja []:={}
noncomputable abbrev adV:List Item:=[.code .ret,.code (cu 6735),.inBlock 1,.code (cu 211),.inLoop (cu 52),.inBlock 0,.code (cu 7)]
theorem akY:Pc 29 147 XZ (Pn) [((.cmp .lss (v 20) (v 10)),false),((.cmp .lss (v 9) (.lit 0)),true)] [(eD 65 2,i64 (v 9))] [] 26 [] [2,3] adV [i64 (.lit 1),i64 (v 10)] []:={}
theorem akZ:Pc 29 147 XZ (Pn) [((.cmp .lss (v 20) (v 10)),false),((.cmp .lss (v 9) (.lit 0)),false)] [(eD 65 1,.bF 7),(eD 65 2,i64 (v 9))] [] 15 [] [1,4,5,40,42] [.inRegion (opsOf (cu 13468)) [6,7,8],.code (cu 13469),.code (cu 6735),.inBlock 1,.code (cu 211),.inLoop (cu 52),.inBlock 0,.code (cu 7)] [bC 64,i64 (v 10),bC 65,FB,.bF 7] []:={}
theorem ak0:dy 147 (opsOf (cu 13468)) 6 [(40,FB),(42,.bF 42)] 51 [.bF 42] 43:={}
noncomputable abbrev adW:List Item:=[.inRegion (opsOf (cu 13468)) [7,8],.code (cu 13469),.code (cu 6735),.inBlock 1,.code (cu 211),.inLoop (cu 52),.inBlock 0,.code (cu 7)]
theorem ak1:Pc 29 147 adW ([(1,bC 64),(4,i64 (v 10)),(5,bC 65),(40,FB),(43,FB)]) [] [] [] 10 [] [2,3] adV [i64 (.lit 1),i64 (v 10)] []:={}
noncomputable abbrev K_:List Item:=[.code (cu 107764),.inLoop (cu 107764),.inBlock 2,.code (cu 13471),.inBlock 1,.code (cu 211),.inLoop (cu 52),.inBlock 0,.code (cu 7)]
theorem ak2:Pc 29 147 adW ([(1,bC 64),(4,i64 (v 10)),(5,bC 65),(40,FB),(43,TB)]) [] [] [] 12 [] [1,4,5,6] K_ [bC 64,i64 (v 10),bC 65,i64 (.lit 0)] []:={}
noncomputable abbrev Uj:List (Nat×AV):=[(1,bC 64),(4,i64 (v 10)),(5,bC 65),(6,i64 (v 15))]
theorem ak3:Pc 29 147 K_ (Uj) (fo 15 51) [(eD 65 1,sA 50 53 51 52),(eB 50 53 15 4,i8 (v 1))] [] 21 [] [1,4,5,6,59] [.inRegion (opsOf (cu 1724232)) [6,7,8,9,10,11,12,13,14,15,16],.code (cu 1724233),.inBlock 3,.code (cu 431059),.inLoop (cu 107764),.inBlock 2,.code (cu 13471),.inBlock 1,.code (cu 211),.inLoop (cu 52),.inBlock 0,.code (cu 7)] [bC 64,i64 (v 10),bC 65,i64 (v 15),i8 (v 1)] []:={}
theorem ak4:dy 147 (opsOf (cu 1724232)) 6 [(59,.bF 59)] 52 [.bF 59] 60:={}
noncomputable abbrev X6:List Item:=[.inRegion (opsOf (cu 1724232)) [7,8,9,10,11,12,13,14,15,16],.code (cu 1724233),.inBlock 3,.code (cu 431059),.inLoop (cu 107764),.inBlock 2,.code (cu 13471),.inBlock 1,.code (cu 211),.inLoop (cu 52),.inBlock 0,.code (cu 7)]
noncomputable abbrev Po:List (Nat×AV):=[(1,bC 64),(4,i64 (v 10)),(5,bC 65),(6,i64 (v 15)),(60,i64 (v 20))]
noncomputable abbrev Jb:List AV:=[bC 64,i64 (v 10),bC 65,i64 (.op .add .i64 (v 15) (.lit 1))]
theorem ak5:Pc 29 147 X6 (Po) [((.cmp .eql (v 20) (.lit (-1))),false)] [] [] 20 [] [1,4,5,6] K_ Jb []:={}
noncomputable abbrev Pp:List (AA×AV):=[(eD 65 1,sA 50 53 51 52),(eA 50 53 15 4 2,i64 (v 3))]
theorem ak6:Pc 29 147 X6 (Po) (fo 15 51++[((.cmp .eql (v 20) (.lit (-1))),true),((.cmp .gtr (v 3) (.lit 16)),false)]) Pp [] 20 [] [1,4,5,6] K_ Jb []:={}
theorem ak7:Pc 29 147 X6 (Po) (fo 15 51++[((.cmp .eql (v 20) (.lit (-1))),true),((.cmp .gtr (v 3) (.lit 16)),true)]) Pp [] 18 [] [2,3] [.code .ret,.inBlock 3,.code (cu 431059),.inLoop (cu 107764),.inBlock 2,.code (cu 13471),.inBlock 1,.code (cu 211),.inLoop (cu 52),.inBlock 0,.code (cu 7)] [i64 (.lit 44),i64 (v 10)] []:={}
noncomputable abbrev BX:List Item:=[.code (cu 215540),.inLoop (cu 215540),.inBlock 4,.code (cu 26943),.inBlock 1,.code (cu 211),.inLoop (cu 52),.inBlock 0,.code (cu 7)]
abbrev Pq:List (BE×Bool):=[((.cmp .lss (v 15) (.tn (v 51))),false)]
theorem ak8:Pc 29 147 K_ (Uj) Pq [(eD 65 1,sA 50 53 51 52)] [] 18 [] [1,4,5,7] BX [bC 64,i64 (v 10),bC 65,i64 (.lit 0)] []:={}
noncomputable abbrev EA:List (AA×AV):=[(eD 65 1,sA 50 53 51 52),(eB 50 53 15 4,i8 (v 1)),(eA 50 53 15 4 1,i64 (v 2))]
noncomputable abbrev EB:List (Nat×AV):=[(1,bC 64),(4,i64 (v 10)),(5,bC 65),(7,i64 (v 15))]
abbrev Pr:List (BE×Bool):=[((.cmp .eql (v 1) (.lit 2)),false)]
theorem ak9:Pc 29 147 BX (EB) (fo 15 51++Pr) EA [] 51 [] [1,4,5,7] BX Jb []:={}
noncomputable abbrev adX:List Item:=[.code .ret,.inBlock 5,.code (cu 862163),.inLoop (cu 215540),.inBlock 4,.code (cu 26943),.inBlock 1,.code (cu 211),.inLoop (cu 52),.inBlock 0,.code (cu 7)]
theorem ak_:Pc 29 147 BX (EB) (fo 15 51++[((.cmp .eql (v 1) (.lit 2)),true),((.cmp .lss (v 2) (.lit 0)),true)]) EA [] 49 [] [2,3] adX Ja []:={}
theorem ak':Pc 29 147 BX (EB) (fo 15 51++[((.cmp .eql (v 1) (.lit 2)),true),((.cmp .lss (v 2) (.lit 0)),false),((.cmp .geq (v 2) (v 10)),true)]) EA [] 49 [] [2,3] adX Ja []:={}
theorem ala:Pc 29 147 BX (EB) (fo 15 51++[((.cmp .eql (v 1) (.lit 2)),true),((.cmp .lss (v 2) (.lit 0)),false),((.cmp .geq (v 2) (v 10)),false)]) EA [] 51 [] [1,4,5,7] BX Jb []:={}
theorem alb:Pc 29 147 BX (EB) Pq [(eD 65 1,sA 50 53 51 52)] [] 15 [] [1,4,107] [.inRegion (opsOf (cu 53886)) [2,3],.code (cu 53887),.inBlock 1,.code (cu 211),.inLoop (cu 52),.inBlock 0,.code (cu 7)] [bC 64,i64 (v 10),sA 50 53 51 52] []:={}
theorem alc:dy 147 (opsOf (cu 53886)) 2 [(107,.bF 107)] 53 [.bF 107,i64 (.lit 0),i64 (.lit 0)] 108:={}
noncomputable abbrev adY:List Item:=[.inRegion (opsOf (cu 53886)) [3],.code (cu 53887),.inBlock 1,.code (cu 211),.inLoop (cu 52),.inBlock 0,.code (cu 7)]
theorem ald:Pc 29 147 adY ([(1,bC 64),(4,i64 (v 10)),(108,i64 (v 20))]) [((.cmp .gtr (v 20) (.lit 64)),true)] [] [] 9 [] [2,3] [.code .ret,.inBlock 1,.code (cu 211),.inLoop (cu 52),.inBlock 0,.code (cu 7)] [i64 (.lit 42),i64 (v 10)] []:={}
theorem ale:Pc 29 147 adY ([(1,bC 64),(4,i64 (v 10)),(108,i64 (v 20))]) [((.cmp .gtr (v 20) (.lit 64)),false)] [] [] 11 [] [1,4] Ez Iv []:={}
noncomputable abbrev vC:List Item:=[.code (cu 116),.inLoop (cu 116),.inBlock 6,.code (cu 15)]
theorem alf(z:Bool):Pc 29 147 Ez ([(1,bC 64),(4,i64 (v 10))]) [((.cmp .lss (v 10) (dO z 51)),false)] [(eD 64 0,cU z 50 53 51 52)] [] 18 [] [1,8] vC [bC 64,i64 (.lit 0)] []:=by cases z<;>exact{}
noncomputable abbrev EC:List (Nat×AV):=[(1,bC 64),(8,i64 (v 10))]
theorem alg(z:Bool):Pc 29 147 vC (EC) (fo 10 67++NM) [(eD 64 0,cU z 50 53 51 52),(eD 64 1,sA 60 66 67 68),(eC 60 66 10,i64 (v 12))] [] 22 [] [2,3] [.code .ret,.code (cu 1865),.inBlock 7,.code (cu 467),.inLoop (cu 116),.inBlock 6,.code (cu 15)] [i64 (.lit 34),i64 (.op .add .i64 (dO z 51) (v 10))] []:=by cases z<;>exact{}
noncomputable abbrev Uk:List Item:=[.code .ret,.inBlock 7,.code (cu 467),.inLoop (cu 116),.inBlock 6,.code (cu 15)]
theorem alh(z:Bool):Pc 29 147 vC (EC) (fo 10 67++Tw) [(eD 64 0,cU z 50 53 51 52),(eD 64 1,sA 60 66 67 68),(eC 60 66 10,i64 (v 12))] [] 26 [] [2,3] Uk [i64 (.lit 43),i64 (.op .add .i64 (dO z 51) (v 10))] []:=by cases z<;>exact{}
theorem ali(z:Bool):Pc 29 147 vC (EC) (fo 10 67++[((.cmp .geq (v 10) (.lit 4096)),false),((.cmp .lss (v 12) (.lit 0)),false),((.cmp .geq (v 12) (dO z 51)),true)]) [(eD 64 0,cU z 50 53 51 52),(eD 64 1,sA 60 66 67 68),(eC 60 66 10,i64 (v 12))] [] 26 [] [2,3] Uk [i64 (.lit 43),i64 (.op .add .i64 (dO z 51) (v 10))] []:=by cases z<;>exact{}
theorem alj(z:Bool):Pc 29 147 vC (EC) (fo 10 67++[((.cmp .geq (v 10) (.lit 4096)),false),((.cmp .lss (v 12) (.lit 0)),false),((.cmp .geq (v 12) (dO z 51)),false)]) [(eD 64 0,cU z 50 53 51 52),(eD 64 1,sA 60 66 67 68),(eC 60 66 10,i64 (v 12))] [] 32 [] [1,8] vC Iv []:=by cases z<;>exact{}
theorem adZ(z:Bool):Pc 29 147 vC (EC) [((.cmp .lss (v 10) (dO z 67)),false)] [(eD 64 1,cU z 60 66 67 68)] [] 16 [] [2,3] [.code .ret] Av []:=by cases z<;>exact{}
theorem ad0(a:Option Addr)(c:Nat):Pc 74 45 [.code (bD Tryz.f74)] ([(0,.raw (.slice a 0 c)),(1,i64 (.lit 0))]) [] [] [] 11 [] [0,1,5] ru [.raw (.slice a 0 c),i64 (.lit 0),i64 (.lit 1)] []:={}
theorem ad1(a:Option Addr)(c:Nat):Pc 74 45 ru ([(0,.raw (.slice a 0 c)),(1,i64 (.lit 0)),(5,i64 (.lit 1))]) [] [] [] 44 [] [4] IQ [i64 (.lit (-1))] []:={}
theorem ad2(a:Option Addr)(c:Nat):Pc 51 114 Pj ([(0,.raw (.slice a 0 c)),(9,i64 (.lit (-1)))]) [] [] [] 9 [] [2] [.code .ret,.code (dm 7)] [FB] []:={}
noncomputable abbrev alk:List Item:=Ez
noncomputable abbrev ad3:List Item:=K_
noncomputable abbrev Sb:List Item:=BX
noncomputable abbrev alm:List Item:=vC
theorem BY{l:List Nd}(h:iy l=true):∃t,dJ (l.length+1) l true=some (t,[])∧l=flat t∧vk t∧LR t:=by
 unfold iy at h;split at h
 ·rename_i t e;have hfl:=gi _ _ _ _ _ e;rw[aV]at hfl;refine⟨t,e,hfl,(jS _ _ _ _ _ e).1,wI _ 0 ?_⟩;have hs:=mP _ _ _ _ _ e;cases t with
  |nd n ks=>rw[wH,aq];exact hs
 ·cases h
section
variable {w w0:World}{cs:List Frame}{fr:Frame}{fn nt i:Nat}{ops:Array Oper}{l:List Nat}{k:List Item}{lv:List (Nat×Value)}
theorem fQ{B p q T el sz:Nat}{V:Value}{old cs':List Value}(O:j7 nt ops i [] (.store T (.tmp p) (.tmp q)) 0 none)(hS:sizeOf? Tryz.prog T=.ok sz)(hV:V.cells.toList=cs')(hV2:V.cells.size=sz)(hO:∀x∈cs',x.oneCell'=true)(hf:FA fn nt (.inRegion ops (i::l)::k) [] .normal lv fr)(hp:gh p lv=some (bK B))(hq:gh q lv=some V)(hB:(cy.obj el old).at Tryz.prog w B)(h1:old.length=cs'.length):
  Goes (G fr cs) w fun g' w'=>∃fr',g'=G fr' cs∧(bU (fun b=>b=B) w w'∧(cy.obj el cs').at Tryz.prog w' B)∧FA fn nt (.inRegion ops l::k) [] .normal lv fr':=by
 obtain⟨arr,g1,g3⟩:=hB;refine O.go0 (R:=fun w'=>bU (fun b=>b=B) w w'∧(cy.obj el cs').at Tryz.prog w' B) (bO [] [] []) hf rfl fun tm ir x e1 e2=>?_;unfold execOp;simp only[e1,bH,Instr.storeAt];rw[ir p _ hp,ir q _ hq];simp only[bK,Instr.sureAddr,bI,storeVar,bH,c9 (n:=sz) hS];rw[if_neg (fun h=>h hV2)];rw[hV];refine Gx cs' 0 (P:=[]) (rest:=old) g1 (by rw[g3];rfl) rfl (by omega) hO fun w' gx kp Cf h2 h3=>?_;refine⟨trivial,kp,gx,Cf,?_⟩;rw[h2,List.nil_append,aI (by omega),aV]
end
section
variable {w w0:World}{cs:List Frame}{fr:Frame}
theorem G1{s:Value}{tree:List Nd}(h:iu w s tree)(hl:tree.length≤1000000):dV 51 #[s] w fun v w'=>bA w w'∧v=.bool (iy tree):=by
 rcases h.ex with h|⟨rfl,a,c,rfl⟩
 ·exact Ey h hl
 refine Goes.iY fun cs=>?_;refine(adB.go (bO [] [] [(0,.slice a 0 c)]) (cC Ph rfl (.slice a 0 c)) rfl trivial trivial).trans fun g1 w1 hd=>?_;obtain⟨I,B,bR,rfl,f1,F1,_⟩:=hd;refine(Uh.go (bO [] [] [(8,.slice a 0 c)]) (Q:=fun v w'=>v=iV (-1)) F1 rfl fun w' f=>?_).trans fun g2 w2 b_=>?_
 ·refine Goes.iY fun cs=>?_;refine((ad0 a c).go (bO [] [] []) (dU GO rfl (.slice a 0 c) (iV 0)) rfl trivial trivial).trans fun g3 w3 cv=>?_;obtain⟨I,B,cF,rfl,f3,F3,_⟩:=cv;exact(ad1 a c).out uR (bO [] [] []) F3 rfl trivial trivial f3 fun _ _ _ _=>rfl
 obtain⟨cE,v,rfl,f2,rfl,F2⟩:=b_;exact(ad2 a c).out oO (bO [] [] []) F2 rfl trivial trivial (f1.trans f2) fun _ _ _ _=>rfl
theorem wL{k:List Item}{a b:Int}{P:Value->World->Prop}(fw:bA w0 w)(hf:FA 29 147 (.code .ret::k) [] .normal [(2,iV a),(3,iV b)] fr)(hP:∀w',P (.tuple #[iV a,iV b]) w'):Goes (G fr cs) w (Out 29 cs w0 P):=by refine(jo G0 hf rfl rfl).mono fun g6 w6 dz=>?_;obtain⟨dK,rfl,rfl,hL⟩:=dz;exact⟨dK,_,rfl,hL,fw,hP _⟩
theorem ED{z:Bool}{A o c A' o' c' N X:Nat}(hN:z=true->N=0)(h0:w0.cell? ⟨X,0,none⟩=some (ew z A o N c)){outs:List Int}(h1:w0.cell? ⟨X,1,none⟩=some (bS A' o' outs.length c'))(hel:∀i n,outs[i]?=some n->w0.cell? ⟨A',o'+i,none⟩=some (iV n)):
  ∀(r:List Int) (i:Nat) {w:World} {cs:List Frame} {fr:Frame},outs.drop i=r->bA w0 w->i≤5000->FA 29 147 alm [] .normal [(1,bK X),(8,iV i)] fr->
  Goes (G fr cs) w (Out 29 cs w0 fun v _=>v=.tuple #[iV (dD N r i).1,iV (dD N r i).2])
 |[],i,w,cs,fr,hr,fw,hi,hf=>by have hlen:outs.length≤i:=aW.1 hr;obtain⟨ρ,hρ⟩:∃ρ:Env,ρ=bO [(67,outs.length),(68,c'),(66,o'),(10,i)] [(60,A'),(64,X)] []:=⟨_,rfl⟩;refine((adZ false).go ρ hf (by rw[hρ];rfl) ⟨by rw[hρ];exact decide_eq_false (by show ¬((i:Int)<((outs.length:Nat):Int));omega),trivial⟩ ⟨by rw[hρ];exact fw.cell h1,trivial⟩).trans fun g1 w1 hd=>?_;obtain⟨I,B,bR,rfl,f1,F1,_⟩:=hd;exact wL (fw.trans f1) F1 fun _=>rfl
 |n::r,i,w,cs,fr,hr,fw,hi,hf=>by
  obtain⟨hn,wu,hlt⟩:=dM hr;obtain⟨ρ,hρ⟩:∃ρ:Env,ρ=bO [(67,outs.length),(68,c'),(66,o'),(10,i),(12,n),(51,N),(52,c),(53,o)] [(60,A'),(64,X),(50,A)] []:=⟨_,rfl⟩;have mm:cq ρ w [(eD 64 0,cU z 50 53 51 52),(eD 64 1,sA 60 66 67 68),(eC 60 66 10,i64 (v 12))]:=by rw[hρ];refine⟨(fw.cell h0).trans ?_,fw.cell h1,fw.cell (hel i n hn),trivial⟩;cases z<;>rfl
  have bb:=bX (ρ:=ρ) (i:=10) (n:=67) (I:=i) (N:=outs.length) (by rw[hρ];rfl) (by rw[hρ];rfl) hlt;have eN:(dO z 51).ev ρ=(N:Int):=by
   rw[hρ];cases z with
   |false=>rfl
   |true=>rw[hN rfl];rfl
  have bad:∀{k:List Item} {w1:World} {bR:Frame} {e:Int} {I:Nat->Int} {B:Nat->Nat},bA w w1->FA 29 147 (.code .ret::k) [] .normal [(2,iV e),(3,iV (iz .add .i64 ((dO z 51).ev (dc ρ I B)) ((dc ρ I B).i 10)))] bR->dD N (n::r) i=(e,iz .add .i64 N i)->Goes (G bR cs) w1 (Out 29 cs w0 fun v _=>v=.tuple #[iV (dD N (n::r) i).1,iV (dD N (n::r) i).2]):=fun{k w1 bR e I B} f1 F1 he=>by
   rw[he];have e1:(dO z 51).ev (dc ρ I B)=(N:Int):=by
    rw[hρ];cases z with
    |false=>rfl
    |true=>rw[hN rfl];rfl
   rw[e1]at F1;subst hρ;exact wL (fw.trans f1) F1 fun _=>rfl
  by_cases h1:(i:Int)≥4096
  ·refine((alg z).go ρ hf (by rw[hρ];rfl) (cg.app bb ⟨by rw[hρ];exact decide_eq_true h1,trivial⟩) mm).trans fun g1 w1 hd=>?_;obtain⟨I,B,bR,rfl,f1,F1,_⟩:=hd;exact bad (I:=I) (B:=B) (e:=34) f1 F1 (by unfold dD;rw[if_pos h1];rfl)
  by_cases h2:n<0
  ·refine((alh z).go ρ hf (by rw[hρ];rfl) (cg.app bb ⟨by rw[hρ];exact decide_eq_false h1,by rw[hρ];exact decide_eq_true h2,trivial⟩) mm).trans fun g1 w1 hd=>?_;obtain⟨I,B,bR,rfl,f1,F1,_⟩:=hd;exact bad (I:=I) (B:=B) (e:=43) f1 F1 (by unfold dD;rw[if_neg h1,if_pos h2];rfl)
  by_cases h3:n≥N
  ·refine((ali z).go ρ hf (by rw[hρ];rfl) (cg.app bb ⟨by rw[hρ];exact decide_eq_false h1,by rw[hρ];exact decide_eq_false h2,by show decide (ρ.i 12≥(dO z 51).ev ρ)=true;rw[eN,hρ];exact decide_eq_true h3,trivial⟩) mm).trans fun g1 w1 hd=>?_;obtain⟨I,B,bR,rfl,f1,F1,_⟩:=hd;exact bad (I:=I) (B:=B) (e:=43) f1 F1 (by unfold dD;rw[if_neg h1,if_neg h2,if_pos h3];rfl)
  refine((alj z).go ρ hf (by rw[hρ];rfl) (cg.app bb ⟨by rw[hρ];exact decide_eq_false h1,by rw[hρ];exact decide_eq_false h2,by show decide (ρ.i 12≥(dO z 51).ev ρ)=false;rw[eN,hρ];exact decide_eq_false h3,trivial⟩) mm).trans fun g1 w1 hd=>?_;obtain⟨I,B,bR,rfl,f1,F1,_⟩:=hd;rw[hρ]at F1;unfold dD;rw[if_neg h1,if_neg h2,if_neg h3];refine ED hN h0 (by assumption) hel r (i+1) wu (fw.trans f1) (by omega) ?_;rw[<-inc (i:=i) (by omega)];exact F1
theorem EE{X V A o c i:Nat}{tree:List Nd}(hV:w0.cell? ⟨V,1,none⟩=some (bS A o tree.length c))(hel:∀i n,tree[i]?=some n->iI w0 A (o+i*4) n)(hl:tree.length≤1000000):
  ∀(r:List Nd) (j:Nat) {w:World} {fr:Frame},tree.drop j=r->j≤tree.length->bA w0 w->FA 29 147 ad3 [] .normal [(1,bK X),(4,iV i),(5,bK V),(6,iV j)] fr->
  Goes (G fr cs) w fun g' w'=>∃fr',g'=G fr' cs∧bA w0 w'∧(r.any (fun n=>decide (bV n.op=-1)&&decide (n.kids>16))=true∧de 29 fr' w' (.tuple #[iV 44,iV i])∨r.any (fun n=>decide (bV n.op=-1)&&decide (n.kids>16))=false∧FA 29 147 Sb [] .normal [(1,bK X),(4,iV i),(5,bK V),(7,iV (0:Nat))] fr')
 |[],j,w,fr,hr,hj,fw,hf=>by have Gn:tree.length≤j:=aW.1 hr;obtain⟨ρ,hρ⟩:∃ρ:Env,ρ=bO [(51,tree.length),(52,c),(53,o),(10,i),(15,j)] [(50,A),(64,X),(65,V)] []:=⟨_,rfl⟩;refine(ak8.go ρ hf (by rw[hρ];rfl) ⟨by rw[hρ];exact decide_eq_false (by show ¬((j:Int)<((tree.length:Nat):Int));omega),trivial⟩ ⟨by rw[hρ];exact fw.cell hV,trivial⟩).mono fun g1 w1 hd=>?_;obtain⟨I,B,bR,rfl,f1,F1,_⟩:=hd;rw[hρ]at F1;exact⟨bR,rfl,fw.trans f1,.inr ⟨rfl,F1⟩⟩
 |n::r,j,w,fr,hr,hj,fw,hf=>by
  obtain⟨hn,wu,hlt⟩:=dM hr;have iK:=(hel j n hn).keep fw;obtain⟨ρ,hρ⟩:∃ρ:Env,ρ=bO [(51,tree.length),(52,c),(53,o),(10,i),(15,j),(1,n.op),(3,n.kids),(20,bV n.op)] [(50,A),(64,X),(65,V)] []:=⟨_,rfl⟩;have bb:=bX (ρ:=ρ) (i:=15) (n:=51) (I:=j) (N:=tree.length) (by rw[hρ];rfl) (by rw[hρ];rfl) hlt;refine(ak3.go ρ hf (by rw[hρ];rfl) bb ⟨by rw[hρ];exact fw.cell hV,by rw[hρ];exact iK.c0,trivial⟩).trans fun g1 w1 hd=>?_;obtain⟨I,B,bR,rfl,f1,F1,_⟩:=hd;rw[hρ]at F1;refine(ak4.go (bO [] [] [(59,cY n.op)]) (Q:=fun v w'=>v=iV (bV n.op)) F1 rfl fun w' f=>AY).trans fun g2 w2 b_=>?_;obtain⟨cE,v,rfl,f2,rfl,F2⟩:=b_;have jT:=fw.trans (f1.trans f2);have mm:cq ρ w2 Pp:=by rw[hρ];exact⟨jT.cell hV,(f1.trans f2).cell iK.c2,trivial⟩
  have next:∀{w3:World} {cF:Frame},(decide (bV n.op=-1)&&decide (n.kids>16))=false->bA w0 w3->FA 29 147 ad3 [] .normal [(1,bK X),(4,iV i),(5,bK V),(6,iV (iz .add .i64 j 1))] cF->Goes (G cF cs) w3 fun g' w'=>∃fr',g'=G fr' cs∧bA w0 w'∧((n::r).any (fun n=>decide (bV n.op=-1)&&decide (n.kids>16))=true∧de 29 fr' w' (.tuple #[iV 44,iV i])∨(n::r).any (fun n=>decide (bV n.op=-1)&&decide (n.kids>16))=false∧FA 29 147 Sb [] .normal [(1,bK X),(4,iV i),(5,bK V),(7,iV (0:Nat))] fr'):=fun{w3 cF} hb f3 F3=>by rw[List.any_cons,hb,Bool.false_or];refine EE hV hel hl r (j+1) wu (by omega) f3 ?_;rw[<-inc (i:=j) (by omega)];exact F3
  by_cases h1:bV n.op=-1
  ·by_cases h2:n.kids>16
   ·refine(ak7.go ρ F2 (by rw[hρ];rfl) (cg.app bb ⟨by rw[hρ];exact decide_eq_true h1,by rw[hρ];exact decide_eq_true h2,trivial⟩) mm).trans fun g3 w3 cv=>?_;obtain⟨I,B,cF,rfl,f3,F3,_⟩:=cv;rw[hρ]at F3;refine(jo G0 F3 rfl rfl).mono fun g6 w6 dz=>?_;obtain⟨dK,rfl,rfl,hL⟩:=dz;exact⟨dK,rfl,jT.trans f3,.inl ⟨by rw[List.any_cons,decide_eq_true h1,decide_eq_true h2];rfl,hL⟩⟩
   ·refine(ak6.go ρ F2 (by rw[hρ];rfl) (cg.app bb ⟨by rw[hρ];exact decide_eq_true h1,by rw[hρ];exact decide_eq_false h2,trivial⟩) mm).trans fun g3 w3 cv=>?_;obtain⟨I,B,cF,rfl,f3,F3,_⟩:=cv;rw[hρ]at F3;exact next (by rw[decide_eq_false h2,Bool.and_false]) (jT.trans f3) F3
  ·refine(ak5.go ρ F2 (by rw[hρ];rfl) ⟨by rw[hρ];exact decide_eq_false h1,trivial⟩ trivial).trans fun g3 w3 cv=>?_;obtain⟨I,B,cF,rfl,f3,F3,_⟩:=cv;rw[hρ]at F3;exact next (by rw[decide_eq_false h1,Bool.false_and]) (jT.trans f3) F3
noncomputable abbrev Pt:List Item:=[.code (cu 53887),.inBlock 1,.code (cu 211),.inLoop (cu 52),.inBlock 0,.code (cu 7)]
theorem A5{X V A o c i:Nat}{tree:List Nd}(hV:w0.cell? ⟨V,1,none⟩=some (bS A o tree.length c))(hel:∀i n,tree[i]?=some n->iI w0 A (o+i*4) n)(hl:tree.length≤1000000):
  ∀(r:List Nd) (j:Nat) {w:World} {fr:Frame},tree.drop j=r->j≤tree.length->bA w0 w->FA 29 147 Sb [] .normal [(1,bK X),(4,iV i),(5,bK V),(7,iV j)] fr->
  Goes (G fr cs) w fun g' w'=>∃fr',g'=G fr' cs∧bA w0 w'∧(r.any (fun n=>decide (n.op=2)&&(decide (n.n<0)||decide (n.n≥i)))=true∧de 29 fr' w' (.tuple #[iV 43,iV i])∨r.any (fun n=>decide (n.op=2)&&(decide (n.n<0)||decide (n.n≥i)))=false∧FA 29 147 (.inRegion (opsOf (cu 53886)) [2,3]::Pt) [] .normal [(1,bK X),(4,iV i),(107,bS A o tree.length c)] fr')
 |[],j,w,fr,hr,hj,fw,hf=>by have Gn:tree.length≤j:=aW.1 hr;obtain⟨ρ,hρ⟩:∃ρ:Env,ρ=bO [(51,tree.length),(52,c),(53,o),(10,i),(15,j)] [(50,A),(64,X),(65,V)] []:=⟨_,rfl⟩;refine(alb.go ρ hf (by rw[hρ];rfl) ⟨by rw[hρ];exact decide_eq_false (by show ¬((j:Int)<((tree.length:Nat):Int));omega),trivial⟩ ⟨by rw[hρ];exact fw.cell hV,trivial⟩).mono fun g1 w1 hd=>?_;obtain⟨I,B,bR,rfl,f1,F1,_⟩:=hd;rw[hρ]at F1;exact⟨bR,rfl,fw.trans f1,.inr ⟨rfl,F1⟩⟩
 |n::r,j,w,fr,hr,hj,fw,hf=>by
  obtain⟨hn,wu,hlt⟩:=dM hr;have iK:=(hel j n hn).keep fw;obtain⟨ρ,hρ⟩:∃ρ:Env,ρ=bO [(51,tree.length),(52,c),(53,o),(10,i),(15,j),(1,n.op),(2,n.n)] [(50,A),(64,X),(65,V)] []:=⟨_,rfl⟩;have bb:=bX (ρ:=ρ) (i:=15) (n:=51) (I:=j) (N:=tree.length) (by rw[hρ];rfl) (by rw[hρ];rfl) hlt;have mm:cq ρ w EA:=by rw[hρ];exact⟨fw.cell hV,iK.c0,iK.c1,trivial⟩
  have next:∀{w3:World} {cF:Frame},(decide (n.op=2)&&(decide (n.n<0)||decide (n.n≥i)))=false->bA w w3->FA 29 147 Sb [] .normal [(1,bK X),(4,iV i),(5,bK V),(7,iV (iz .add .i64 j 1))] cF->Goes (G cF cs) w3 fun g' w'=>∃fr',g'=G fr' cs∧bA w0 w'∧((n::r).any (fun n=>decide (n.op=2)&&(decide (n.n<0)||decide (n.n≥i)))=true∧de 29 fr' w' (.tuple #[iV 43,iV i])∨(n::r).any (fun n=>decide (n.op=2)&&(decide (n.n<0)||decide (n.n≥i)))=false∧FA 29 147 (.inRegion (opsOf (cu 53886)) [2,3]::Pt) [] .normal [(1,bK X),(4,iV i),(107,bS A o tree.length c)] fr'):=fun{w3 cF} hb f3 F3=>by rw[List.any_cons,hb,Bool.false_or];refine A5 hV hel hl r (j+1) wu (by omega) (fw.trans f3) ?_;rw[<-inc (i:=j) (by omega)];exact F3
  have bad:∀{k:List Item} {w3:World} {cF:Frame},(decide (n.op=2)&&(decide (n.n<0)||decide (n.n≥i)))=true->bA w w3->FA 29 147 (.code .ret::k) [] .normal [(2,iV 43),(3,iV i)] cF->Goes (G cF cs) w3 fun g' w'=>∃fr',g'=G fr' cs∧bA w0 w'∧((n::r).any (fun n=>decide (n.op=2)&&(decide (n.n<0)||decide (n.n≥i)))=true∧de 29 fr' w' (.tuple #[iV 43,iV i])∨(n::r).any (fun n=>decide (n.op=2)&&(decide (n.n<0)||decide (n.n≥i)))=false∧FA 29 147 (.inRegion (opsOf (cu 53886)) [2,3]::Pt) [] .normal [(1,bK X),(4,iV i),(107,bS A o tree.length c)] fr'):=fun{k w3 cF} hb f3 F3=>by refine(jo G0 F3 rfl rfl).mono fun g6 w6 dz=>?_;obtain⟨dK,rfl,rfl,hL⟩:=dz;exact⟨dK,rfl,fw.trans f3,.inl ⟨by rw[List.any_cons,hb];rfl,hL⟩⟩
  by_cases h1:n.op=2
  ·by_cases h2:n.n<0
   ·refine(ak_.go ρ hf (by rw[hρ];rfl) (cg.app bb ⟨by rw[hρ];exact decide_eq_true h1,by rw[hρ];exact decide_eq_true h2,trivial⟩) mm).trans fun g3 w3 cv=>?_;obtain⟨I,B,cF,rfl,f3,F3,_⟩:=cv;rw[hρ]at F3;exact bad (by rw[decide_eq_true h1,decide_eq_true h2];rfl) f3 F3
   ·by_cases h3:n.n≥i
    ·refine(ak'.go ρ hf (by rw[hρ];rfl) (cg.app bb ⟨by rw[hρ];exact decide_eq_true h1,by rw[hρ];exact decide_eq_false h2,by rw[hρ];exact decide_eq_true h3,trivial⟩) mm).trans fun g3 w3 cv=>?_;obtain⟨I,B,cF,rfl,f3,F3,_⟩:=cv;rw[hρ]at F3;exact bad (by rw[decide_eq_true h1,decide_eq_true h3,Bool.or_true];rfl) f3 F3
    ·refine(ala.go ρ hf (by rw[hρ];rfl) (cg.app bb ⟨by rw[hρ];exact decide_eq_true h1,by rw[hρ];exact decide_eq_false h2,by rw[hρ];exact decide_eq_false h3,trivial⟩) mm).trans fun g3 w3 cv=>?_;obtain⟨I,B,cF,rfl,f3,F3,_⟩:=cv;rw[hρ]at F3;exact next (by rw[decide_eq_false h2,decide_eq_false h3,Bool.or_false,Bool.and_false]) f3 F3
  ·refine(ak9.go ρ hf (by rw[hρ];rfl) (cg.app bb ⟨by rw[hρ];exact decide_eq_false h1,trivial⟩) mm).trans fun g3 w3 cv=>?_;obtain⟨I,B,cF,rfl,f3,F3,_⟩:=cv;rw[hρ]at F3;exact next (by rw[decide_eq_false h1,Bool.false_and]) f3 F3
theorem EF{F:iG}{ls os:Value}{X:Nat}{z:Bool}{A o c:Nat}{L:List cx}(hz:z=true->L=[])(I8:w0.cell? ⟨X,0,none⟩=some (ew z A o L.length c))(LS:w0.cell? ⟨X,1,none⟩=some os)(hls:nN w0 (ew z A o L.length c) L)(hos:jq w0 os F.outs)(hL:F.lets=L)(hel:∀i x,L[i]?=some x->og w0 A (o+i*3) x)(hlen:L.length≤1000000)(htr:∀x∈L,x.tree.length≤999999):
  ∀(r:List cx) (i:Nat) {w:World} {cs:List Frame} {fr:Frame},L.drop i=r->i≤L.length->bA w0 w->FA 29 147 alk [] .normal [(1,bK X),(4,iV i)] fr->
  Goes (G fr cs) w (Out 29 cs w0 fun v _=>v=match dX r i (j8 L i)with
   |some (e,j)=>.tuple #[iV e,iV j]
   |none=>.tuple #[iV (dD L.length F.outs 0).1,iV (dD L.length F.outs 0).2])
 |[],i,w,cs,fr,hr,hi,fw,hf=>by
  have Gn:L.length≤i:=aW.1 hr;obtain⟨y,A',o',c',rfl,hy,Gp,fW⟩:=hos.ex;have hN:z=true->L.length=0:=fun h=>by rw[hz h];rfl
  obtain⟨ρ,hρ⟩:∃ρ:Env,ρ=bO [(51,L.length),(52,c),(53,o),(10,i)] [(50,A),(64,X)] []:=⟨_,rfl⟩;have eN:(dO z 51).ev ρ=(L.length:Int):=by
   rw[hρ];cases z with
   |false=>rfl
   |true=>rw[hN rfl];rfl
  refine((alf z).go ρ hf (by rw[hρ];rfl) ⟨by show decide (ρ.i 10<(dO z 51).ev ρ)=false;rw[eN,hρ];exact decide_eq_false (by show ¬((i:Int)<(L.length:Int));omega),trivial⟩ ⟨by rw[hρ];refine(fw.cell I8).trans ?_;cases z<;>rfl,trivial⟩).trans fun g1 w1 hd=>?_;obtain⟨I,B,bR,rfl,f1,F1,_⟩:=hd;rw[hρ]at F1;have Dr:=fw.trans f1;unfold dX;dsimp only;cases y with
  |true=>have ho:F.outs=[]:=hy rfl;rw[ho];refine((adZ true).go (bO [(10,0)] [(64,X)] []) F1 rfl ⟨rfl,trivial⟩ ⟨Dr.cell LS,trivial⟩).trans fun g2 w2 b_=>?_;obtain⟨I,B,cE,rfl,f2,F2,_⟩:=b_;exact wL (Dr.trans f2) F2 fun _=>rfl
  |false=>exact ED hN I8 LS fW F.outs 0 rfl Dr (by omega) F1
 |x::r,i,w,cs,fr,hr,hi,fw,hf=>by
  obtain⟨hx,wu,hlt⟩:=dM hr;have auS:ls=ls:=rfl;obtain rfl:z=false:=by
   cases z with
   |false=>rfl
   |true=>rw[hz rfl]at hlt;simp at hlt
  obtain⟨ts,a0,a1,a2,a3⟩:=(hel i x hx).ex;have NO:x.tree.length≤999999:=htr x (az hx);have hdup:=OW hx;obtain⟨dup,ed⟩:∃dup,(fu x.name (j8 L i)).getD false=dup:=⟨_,rfl⟩;have hrs:=K1 (x:=x) (i:=i) (names:=j8 L i);rw[ed]at hdup hrs;have bad:∀{k:List Item} {w1:World} {bR:Frame} {e:Int},uc x i dup=e->e≠0->bA w0 w1->FA 29 147 (.code .ret::k) [] .normal [(2,iV e),(3,iV i)] bR->Goes (G bR cs) w1 (Out 29 cs w0 fun v _=>v=match dX (x::r) i (j8 L i)with
   |some (e,j)=>.tuple #[iV e,iV j]
   |none=>.tuple #[iV (dD L.length F.outs 0).1,iV (dD L.length F.outs 0).2]):=fun{k w1 bR e} he h0 f1 F1=>by
   refine wL f1 F1 fun _=>?_;unfold dX;rw[if_pos (by rw[<-hrs,he];exact h0),<-hrs,he]
  have ad4:∀{g:Goroutine} {w1:World} {bR:Frame} {e:Int},uc x i dup=e->e≠0->bA w0 w1->g=G bR cs->de 29 bR w1 (.tuple #[iV e,iV i])->Out 29 cs w0 (fun v _=>v=match dX (x::r) i (j8 L i)with
   |some (e,j)=>.tuple #[iV e,iV j]
   |none=>.tuple #[iV (dD L.length F.outs 0).1,iV (dD L.length F.outs 0).2]) g w1:=fun{g w1 bR e} he h0 f1 hg hL=>by
   refine⟨bR,_,hg,hL,f1,?_⟩;unfold dX;rw[if_pos (by rw[<-hrs,he];exact h0),<-hrs,he]
  obtain⟨ρ,hρ⟩:∃ρ:Env,ρ=Go.Proofs.YtmobbajggkjpgaaGreat.SX.iS [(51,L.length),(52,c),(53,o),(10,i),(9,x.cj)] [(50,A),(64,X)] [(7,ts)] [(1,x.name)]:=⟨_,rfl⟩;refine(akR.go ρ hf (by rw[hρ];rfl) (bX (i:=10) (n:=51) (I:=i) (N:=L.length) (by rw[hρ];rfl) (by rw[hρ];rfl) hlt) ⟨by rw[hρ];exact fw.cell I8,by rw[hρ];exact fw.cell a0,by rw[hρ];exact fw.cell a1,by rw[hρ];exact fw.cell a2,trivial⟩).trans fun g1 w1 hd=>?_;obtain⟨I,B,bR,rfl,f1,F1,bl,_⟩:=hd;rw[hρ]at F1 bl;obtain⟨V,eV⟩:∃V,B 100=V:=⟨_,rfl⟩;have hV0:(cy.obj 50 [.string ⟨#[]⟩,eH,iV 0]).at Tryz.prog w1 V:=by rw[<-eV];exact bl.1.2
  have gV:w.heap.size≤V:=by rw[<-eV];exact bl.1.1
  have fN:FA 29 147 (.inRegion (opsOf (cu 840)) [6]::[.code (cu 841),.inBlock 1,.code (cu 211),.inLoop (cu 52),.inBlock 0,.code (cu 7)]) [] .normal [(1,bK X),(4,iV i),(5,bK V),(20,fK x ts)] bR:=by rw[<-eV];exact F1
  refine(fQ (B:=V) (T:=50) (el:=50) (sz:=3) (V:=fK x ts) (cs':=[.string x.name,ts,iV x.cj]) adQ (by kernel_rfl) rfl rfl (by
   intro y hy;simp only[ai,aA,or_false]at hy;rcases hy with rfl|rfl|rfl
   ·rfl
   ·rcases a3.ex with h|⟨_,a,c,rfl⟩
    ·rcases h.ex with⟨rfl,_⟩|⟨A,o,c,rfl,_⟩<;>rfl
    ·rfl
   ·rfl) fN rfl rfl hV0 rfl).trans fun g2 w2 b_=>?_
  obtain⟨cE,rfl,⟨MI,hV⟩,F2⟩:=b_;have jT:bA w0 w2:=cw (fw.trans f1) (MI.mono fun b hb=>by rw[hb];exact ax fw.size gV);have ad5:=bG hV (i:=0) rfl;have X7:=bG hV (i:=1) rfl;have ad6:=bG hV (i:=2) rfl;obtain⟨σ,cr⟩:∃σ:Env,σ=Go.Proofs.YtmobbajggkjpgaaGreat.SX.iS [(51,L.length),(52,c),(53,o),(10,i),(9,x.cj),(20,yG L x.name)] [(50,A),(64,X),(65,V)] [(7,ts),(8,bS A o L.length c),(9,os)] [(1,x.name)]:=⟨_,rfl⟩;by_cases h1:(i:Int)≥4096
  ·refine(akS.go σ F2 (by rw[cr];rfl) ⟨by rw[cr];exact decide_eq_true h1,trivial⟩ trivial).trans fun g3 w3 cv=>?_;obtain⟨I,B,cF,rfl,f3,F3,_⟩:=cv;rw[cr]at F3;exact bad (e:=34) (by unfold uc;rw[if_pos h1]) (by decide) (jT.trans f3) F3
  refine(adS.go σ F2 (by rw[cr];rfl) ⟨by rw[cr];exact decide_eq_false h1,trivial⟩ ⟨by rw[cr];exact ad5,trivial⟩).trans fun g3 w3 cv=>?_;obtain⟨I,B,cF,rfl,f3,F3,_⟩:=cv;rw[cr]at F3;refine(akT.go (bO [] [] [(25,.string x.name)]) (Q:=fun v w'=>v=.bool (gz x.name)) F3 rfl fun w' f=>K4).trans fun g4 w4 dh=>?_;obtain⟨eO,v,rfl,f4,rfl,F4⟩:=dh;have f24:=f3.trans f4;have o_:=jT.trans f24;cases en:gz x.name with
  |false=>rw[en]at F4;refine(akU.go σ F4 (by rw[cr];rfl) trivial trivial).trans fun g5 w5 eg=>?_;obtain⟨I,B,gn,rfl,f5,F5,_⟩:=eg;rw[cr]at F5;exact bad (e:=43) (by unfold uc;rw[if_neg h1,if_pos (.inl en)]) (by decide) (o_.trans f5) F5
  |true=>
  rw[en]at F4;refine(akV.go σ F4 (by rw[cr];rfl) trivial ⟨by rw[cr];exact o_.cell I8,by rw[cr];exact o_.cell LS,by rw[cr];exact f24.cell ad5,trivial⟩).trans fun g5 w5 eg=>?_;obtain⟨I,B,gn,rfl,f5,F5,_⟩:=eg;rw[cr]at F5;have uk:=o_.trans f5;refine(akW.go (bO [] [] [(29,.agg #[bS A o L.length c,os]),(31,.string x.name)]) (Q:=fun v w'=>v=iV (yG L x.name)) F5 rfl fun w' f=>K5 (hls.keep (uk.trans f)) hlen).trans fun g6 w6 dz=>?_;obtain⟨dK,v,rfl,f6,rfl,F6⟩:=dz;have f26:=f24.trans (f5.trans f6);have BW:=uk.trans f6;cases Mx:dup with
  |true=>rw[Mx]at hdup;refine(akX.go σ F6 (by rw[cr];rfl) ⟨by rw[cr];exact hdup,trivial⟩ trivial).trans fun g7 w7 mW=>?_;obtain⟨I,B,qX,rfl,f7,F7,_⟩:=mW;rw[cr]at F7;exact bad (e:=43) (by unfold uc;rw[if_neg h1,if_pos (.inr Mx)]) (by decide) (BW.trans f7) F7
  |false=>
  rw[Mx]at hdup;have ZW:¬(gz x.name=false∨dup=true):=by rw[en,Mx];simp
  by_cases h2:x.cj<0
  ·refine(akY.go σ F6 (by rw[cr];rfl) ⟨by rw[cr];exact hdup,by rw[cr];exact decide_eq_true h2,trivial⟩ ⟨by rw[cr];exact f26.cell ad6,trivial⟩).trans fun g7 w7 mW=>?_;obtain⟨I,B,qX,rfl,f7,F7,_⟩:=mW;rw[cr]at F7;exact bad (e:=1) (by unfold uc;rw[if_neg h1,if_neg ZW,if_pos (.inl h2)]) (by decide) (BW.trans f7) F7
  refine(akZ.go σ F6 (by rw[cr];rfl) ⟨by rw[cr];exact hdup,by rw[cr];exact decide_eq_false h2,trivial⟩ ⟨by rw[cr];exact f26.cell X7,by rw[cr];exact f26.cell ad6,trivial⟩).trans fun g7 w7 mW=>?_;obtain⟨I,B,qX,rfl,f7,F7,_⟩:=mW;rw[cr]at F7;have Ul:=BW.trans f7;refine(ak0.go (bO [] [] [(42,ts)]) (Q:=fun v w'=>v=.bool (iy x.tree)) F7 rfl fun w' f=>G1 (a3.keep (Ul.trans f)) (by omega)).trans fun g8 w8 BH=>?_;obtain⟨Np,v,rfl,f8,rfl,F8⟩:=BH;have Pm:=Ul.trans f8;have f28:=f26.trans (f7.trans f8);cases hsh:iy x.tree with
  |false=>rw[hsh]at F8;refine(ak1.go σ F8 (by rw[cr];rfl) trivial trivial).trans fun g9 w9 zA=>?_;obtain⟨I,B,E6,rfl,f9,F9,_⟩:=zA;rw[cr]at F9;exact bad (e:=1) (by unfold uc;rw[if_neg h1,if_neg ZW,if_pos (.inr hsh)]) (by decide) (Pm.trans f9) F9
  |true=>
  rw[hsh]at F8;obtain⟨t,hgt,hfl,Cg,alo⟩:=BY hsh;have n1:¬(x.cj<0∨iy x.tree=false):=by rw[hsh];simpa using h2
  obtain⟨At,ot,ct,rfl,Rn,X8⟩:∃At ot ct,ts=bS At ot x.tree.length ct∧x.tree.length≤ct∧∀i n,x.tree[i]?=some n->iI w0 At (ot+i*4) n:=by
   have hpos:=tK t;rcases a3.ex with h|⟨e,_⟩
   ·rcases h.ex with⟨_,e⟩|⟨A1,o1,c1,e1,e2,e3⟩
    ·rw[<-hfl,e]at hpos;simp at hpos
    ·exact⟨A1,o1,c1,e1,e2,e3⟩
   ·rw[<-hfl,e]at hpos;simp at hpos
  refine(ak2.go σ F8 (by rw[cr];rfl) trivial trivial).trans fun g9 w9 zA=>?_;obtain⟨I,B,E6,rfl,f9,F9,_⟩:=zA;rw[cr]at F9;have f09:=Pm.trans f9;have f29:=f28.trans f9;refine(EE (w0:=w9) (X:=X) (i:=i) (f29.cell X7) (fun i n hi=>(X8 i n hi).keep f09) (by omega) x.tree 0 rfl (by omega) (bA.refl _) F9).trans fun g10 w10 Pg=>?_;obtain⟨R_,rfl,f10,⟨hb,hL'⟩|⟨hb,F10⟩⟩:=Pg
  ·exact .here (ad4 (e:=44) (by unfold uc;rw[if_neg h1,if_neg ZW,if_neg n1,if_pos hb]) (by decide) (f09.trans f10) rfl hL')
  have n44:¬(x.tree.any (fun n=>decide (bV n.op=-1)&&decide (n.kids>16))=true):=by rw[hb];decide
  have f0A:=f09.trans f10;have f2A:=f29.trans f10;refine(A5 (w0:=w10) (X:=X) (i:=i) (f2A.cell X7) (fun i n hi=>(X8 i n hi).keep f0A) (by omega) x.tree 0 rfl (by omega) (bA.refl _) F10).trans fun g11 w11 X9=>?_;obtain⟨als,rfl,f11,⟨o7,hL'⟩|⟨o7,F11⟩⟩:=X9
  ·exact .here (ad4 (e:=43) (by unfold uc;rw[if_neg h1,if_neg ZW,if_neg n1,if_neg n44,if_pos o7]) (by decide) (f0A.trans f11) rfl hL')
  have ad7:¬(x.tree.any (fun n=>decide (n.op=2)&&(decide (n.n<0)||decide (n.n≥i)))=true):=by rw[o7];decide
  have f0B:=f0A.trans f11;refine(alc.go (bO [] [] [(107,bS At ot x.tree.length ct)]) (Q:=fun v w'=>v=iV (cD t 0).1) F11 rfl fun w' f=>(Ex t).1 (d:=0) (cj:=0) (rest:=[]) (tree:=x.tree) ⟨.inr ⟨At,ot,ct,rfl,Rn,fun i n hi=>(X8 i n hi).keep (f0B.trans f)⟩⟩ (by omega) Cg alo (by omega) (by rw[<-hfl];omega) (by rw[List.drop_zero,aV];exact hfl)).trans fun g12 w12 X_=>?_;obtain⟨ad9,v,rfl,f12,rfl,F12⟩:=X_;have f0C:=f0B.trans f12;have e42:(((mJ x).map fun t=>(cD t 0).1).getD 0)=(cD t 0).1:=by unfold mJ;rw[hgt];rfl
  obtain⟨τ,fS⟩:∃τ:Env,τ=bO [(10,i),(20,(cD t 0).1)] [(64,X)] []:=⟨_,rfl⟩;by_cases h5:(cD t 0).1>64
  ·refine(ald.go τ F12 (by rw[fS];rfl) ⟨by rw[fS];exact decide_eq_true h5,trivial⟩ trivial).trans fun g13 w13 Pu=>?_;obtain⟨I,B,ad_,rfl,f13,Um,_⟩:=Pu;rw[fS]at Um;exact bad (e:=42) (by unfold uc;rw[if_neg h1,if_neg ZW,if_neg n1,if_neg n44,if_neg ad7,e42,if_pos h5]) (by decide) (f0C.trans f13) Um
  refine(ale.go τ F12 (by rw[fS];rfl) ⟨by rw[fS];exact decide_eq_false h5,trivial⟩ trivial).trans fun g13 w13 Pu=>?_;obtain⟨I,B,ad_,rfl,f13,Um,_⟩:=Pu;rw[fS]at Um;have alu:uc x i dup=0:=by unfold uc;rw[if_neg h1,if_neg ZW,if_neg n1,if_neg n44,if_neg ad7,e42,if_neg h5]
  have ec:dX (x::r) i (j8 L i)=dX r (i+1) (j8 L (i+1)):=by
   conv=>lhs;unfold dX
   rw[if_neg (by rw[<-hrs,alu];decide)];congr 1;unfold j8;rw[List.take_add_one,hx,bu];rfl
  rw[ec];refine EF (ls:=ls) hz I8 LS hls hos hL hel hlen htr r (i+1) wu (by omega) (f0C.trans f13) ?_;rw[<-inc (i:=i) (by omega)];exact Um
theorem G2{x:Value}{F:iG}(h:mK w x F)(hlen:F.lets.length≤1000000)(htr:∀x∈F.lets,x.tree.length≤999999):dV 29 #[x] w fun v w'=>bA w w'∧v=.tuple #[iV (gH F).1,iV (gH F).2]:=by
 obtain⟨ls,os,rfl,hl,ho⟩:=h;obtain⟨z,A,o,c,hls,hz,oU,hel⟩:=hl.ex;refine Goes.iY fun cs=>?_;obtain⟨ρ,hρ⟩:∃ρ:Env,ρ=bO [(51,F.lets.length),(52,c),(53,o)] [(50,A)] [(9,os)]:=⟨_,rfl⟩;refine((akQ z).go ρ (cC XY rfl (.agg #[ls,os])) (by rw[hρ,hls];cases z<;>rfl) trivial trivial).trans fun g1 w1 hd=>?_;obtain⟨I,B,bR,rfl,f1,F1,bl,_⟩:=hd;have hX:(cy.obj 25 [ew z A o F.lets.length c,os]).at Tryz.prog w1 (B 100):=by have:=bl.1.2;rw[hρ]at this;cases z<;>exact this
 refine(EF (w0:=w1) (ls:=ls) (X:=B 100) (F:=F) hz (bG hX (i:=0) rfl) (bG hX (i:=1) rfl) (by rw[<-hls];exact hl.keep f1) (ho.keep f1) rfl (fun i x hi=>(hel i x hi).keep f1) hlen htr F.lets 0 rfl (by omega) (bA.refl _) (by rw[hρ]at F1;exact F1)).mono fun g2 w2 b_=>?_;obtain⟨cE,v,rfl,hL,f2,rfl⟩:=b_;refine⟨cE,_,rfl,hL,f1.trans f2,?_⟩;unfold gH;rw[show j8 F.lets 0=[]from rfl];cases dX F.lets 0 []with
 |none=>rfl
 |some p=>rfl
end
noncomputable def Ya(l:Nat):Code:=pc (bD Tryz.f83) (pd l)
theorem Yb:bT Tryz.prog 83 [.bF 0,.bF 1] .normal=.ok ⟨83,37,c_ 83 [.bF 0,.bF 1],[.code (bD Tryz.f83)],[],.run,.normal⟩:=by kernel_rfl
noncomputable abbrev dR:List AV:=[i64 (v 31),i64 (v 32),i64 (v 33),i64 (v 34)]
noncomputable abbrev rz:List (Nat×AV):=[(0,.agg dR),(1,i64 (v 5))]
theorem alv:Pc 83 37 [.code (bD Tryz.f83)] (rz) [((.cmp .gtr (v 34) (.lit 0)),true),((.cmp .eql (v 34) (.lit 0)),false),((.cmp .eql (.op .rem .i64 (v 5) (v 34)) (.lit 0)),true)] [] [] 26 [101] [4] [.code .ret,.code (Ya 7)] [bC 101] [(101,.cells [i8 (.lit 3),i64 (v 5)] 43)]:={}
theorem alw:Pc 83 37 [.code (bD Tryz.f83)] (rz) [((.cmp .gtr (v 34) (.lit 0)),true),((.cmp .eql (v 34) (.lit 0)),false),((.cmp .eql (.op .rem .i64 (v 5) (v 34)) (.lit 0)),false),((.cmp .gtr (v 33) (.lit 0)),true),((.cmp .eql (v 33) (.lit 0)),false),((.cmp .eql (.op .rem .i64 (v 5) (v 33)) (.lit 0)),true)] [] [] 42 [101] [4] [.code .ret,.code (Ya 15)] [bC 101] [(101,.cells [i8 (.lit 2),i64 (v 5)] 43)]:={}
noncomputable abbrev Jc:List (Nat×bQ):=[(101,.cells [i8 (.lit 1),i64 (.op .add .i64 (.op .mul .i64 (v 5) (v 31)) (v 32))] 43)]
theorem alx:Pc 83 37 [.code (bD Tryz.f83)] (rz) [((.cmp .gtr (v 34) (.lit 0)),true),((.cmp .eql (v 34) (.lit 0)),false),((.cmp .eql (.op .rem .i64 (v 5) (v 34)) (.lit 0)),false),((.cmp .gtr (v 33) (.lit 0)),true),((.cmp .eql (v 33) (.lit 0)),false),((.cmp .eql (.op .rem .i64 (v 5) (v 33)) (.lit 0)),false)] [] [] 49 [101] [4] [.code .ret] [bC 101] Jc:={}
theorem aly:Pc 83 37 [.code (bD Tryz.f83)] (rz) [((.cmp .gtr (v 34) (.lit 0)),true),((.cmp .eql (v 34) (.lit 0)),false),((.cmp .eql (.op .rem .i64 (v 5) (v 34)) (.lit 0)),false),((.cmp .gtr (v 33) (.lit 0)),false)] [] [] 49 [101] [4] [.code .ret] [bC 101] Jc:={}
theorem alz:Pc 83 37 [.code (bD Tryz.f83)] (rz) [((.cmp .gtr (v 34) (.lit 0)),false),((.cmp .gtr (v 33) (.lit 0)),true),((.cmp .eql (v 33) (.lit 0)),false),((.cmp .eql (.op .rem .i64 (v 5) (v 33)) (.lit 0)),true)] [] [] 42 [101] [4] [.code .ret,.code (Ya 15)] [bC 101] [(101,.cells [i8 (.lit 2),i64 (v 5)] 43)]:={}
theorem alD:Pc 83 37 [.code (bD Tryz.f83)] (rz) [((.cmp .gtr (v 34) (.lit 0)),false),((.cmp .gtr (v 33) (.lit 0)),true),((.cmp .eql (v 33) (.lit 0)),false),((.cmp .eql (.op .rem .i64 (v 5) (v 33)) (.lit 0)),false)] [] [] 49 [101] [4] [.code .ret] [bC 101] Jc:={}
theorem alE:Pc 83 37 [.code (bD Tryz.f83)] (rz) [((.cmp .gtr (v 34) (.lit 0)),false),((.cmp .gtr (v 33) (.lit 0)),false)] [] [] 49 [101] [4] [.code .ret] [bC 101] Jc:={}
noncomputable def cR(l:Nat):Code:=pc (bD Tryz.f61) (pd l)
theorem Yc:bT Tryz.prog 61 j6 .normal=.ok ⟨61,167,c_ 61 j6,[.code (bD Tryz.f61)],[],.run,.normal⟩:=by kernel_rfl
theorem alF:Pc 61 167 [.code (bD Tryz.f61)] ([(0,sA 50 53 51 52),(1,i64 (v 10)),(2,.agg dR),(3,.bF 3)]) (fo 10 51) Xq [] 18 [102,101,100] [0,3,6,8,9,20,21] [.inRegion (opsOf (cR 14)) [2,3],.code (cR 15)] [sA 50 53 51 52,.bF 3,bC 100,bC 101,bC 102,sA 50 53 51 52,i64 (v 10)] [(102,.cells [i8 (v 1),i64 (v 2),i64 (v 3),i64 (v 4)] 77),(101,.cells [i8 (.lit 0),i64 (.lit 0)] 43),(100,.cells dR 27)]:={}
theorem alG:dy 167 (opsOf (cR 14)) 2 [(20,.bF 20),(21,.bF 21)] 75 [.bF 20,.bF 21] 22:={}
noncomputable abbrev Pv:List (Nat×AV):=[(0,.bF 0),(3,.bF 3),(6,bC 65),(8,bC 68),(9,bC 64),(22,.bF 22)]
noncomputable abbrev Jd:List Item:=[.inRegion (opsOf (cR 14)) [3],.code (cR 15)]
noncomputable abbrev rA:List (Nat×bQ):=[(68,.cells [i8 (.lit 0),i64 (.lit 0)] 43)]
noncomputable abbrev Je:List (AA×AV):=[(eD 64 0,i8 (v 1)),(eD 64 1,i64 (v 2))]
noncomputable abbrev Pw:List Item:=[.code .ret,.inBlock 0,.code (cR 31)]
theorem alH:Pc 61 167 Jd (Pv) [((.cmp .eql (v 1) (.lit 1)),true)] Je rA 22 [68] [8] Pw [bC 68] [(68,.cells [i8 (.lit 1),i64 (v 2)] 43)]:={}
theorem alI:Pc 61 167 Jd ([(0,.bF 0),(3,sA 70 73 71 72),(6,bC 65),(8,bC 68),(9,bC 64),(22,.bF 22)]) (((.cmp .eql (v 1) (.lit 1)),false)::((.cmp .eql (v 1) (.lit 2)),true)::fo 2 71) [(eD 64 0,i8 (v 1)),(eD 64 1,i64 (v 2)),(eB 70 73 2 2,i8 (v 15)),(eA 70 73 2 2 1,i64 (v 16))] rA 30 [68] [8] Pw [bC 68] [(68,.cells [i8 (v 15),i64 (v 16)] 43)]:={}
noncomputable abbrev Px:List Item:=[.code (cR 125924),.inLoop (cR 125924),.inBlock 1,.code (cR 15741),.inBlock 0,.code (cR 31)]
theorem alJ:Pc 61 167 Jd (Pv) abH Je [] 34 [] [0,3,6,8,10,11] Px [.bF 0,.bF 3,bC 65,bC 68,.bF 22,i64 (.lit 0)] []:={}
theorem alK:Pc 61 167 Jd (Pv) [((.cmp .eql (v 1) (.lit 1)),false),((.cmp .eql (v 1) (.lit 2)),false),((.cmp .eql (v 1) (.lit 11)),false)] Je [] 30 [] [0,3,6,8,9,10] [.code (cR 62),.code (cR 63)] [.bF 0,.bF 3,bC 65,bC 68,bC 64,.bF 22] []:={}
noncomputable abbrev Py:List (Nat×AV):=[(0,.bF 0),(3,.bF 3),(6,bC 65),(8,bC 68),(10,sA 80 83 81 82),(11,i64 (v 15))]
theorem alL:Pc 61 167 Px (Py) (fo 15 81) [] [] 13 [] [0,3,6,8,10,11] [.code (cR 2014792),.code (cR 2014793),.inBlock 2,.code (cR 503699),.inLoop (cR 125924),.inBlock 1,.code (cR 15741),.inBlock 0,.code (cR 31)] [.bF 0,.bF 3,bC 65,bC 68,sA 80 83 81 82,i64 (v 15)] []:={}
noncomputable abbrev ad':List Item:=[.inRegion (opsOf (cR 2014792)) [],.code (cR 2014793),.inBlock 2,.code (cR 503699),.inLoop (cR 125924),.inBlock 1,.code (cR 15741),.inBlock 0,.code (cR 31)]
noncomputable abbrev aea:List (Nat×AV):=[(0,.bF 0),(3,.bF 3),(6,bC 65),(8,bC 68),(10,sA 80 83 81 82),(11,i64 (v 15)),(12,bC 66)]
noncomputable abbrev Pz:List (AA×AV):=[(eD 66 0,i8 (v 21)),(eD 66 1,i64 (v 22))]
noncomputable abbrev PA:List (Nat×bQ):=[(68,.cells [i8 (v 21),i64 (v 22)] 43)]
theorem alM:Pc 61 167 ad' (aea) [((.cmp .eql (v 21) (.lit 1)),true)] Pz rA 13 [68] [8] [.code .ret,.inBlock 2,.code (cR 503699),.inLoop (cR 125924),.inBlock 1,.code (cR 15741),.inBlock 0,.code (cR 31)] [bC 68] PA:={}
theorem alN:Pc 61 167 ad' (aea) [((.cmp .eql (v 21) (.lit 1)),false)] Pz [] 16 [] [0,3,6,8,10,11] Px [.bF 0,.bF 3,bC 65,bC 68,sA 80 83 81 82,i64 (.op .add .i64 (v 15) (.lit 1))] []:={}
noncomputable abbrev PB:List AV:=[.bF 0,.bF 3,bC 65,bC 68,sA 80 83 81 82]
theorem alO:Pc 61 167 Px (Py) O6 [] [] 11 [] [0,3,6,8,10] [.code (cR 31482),.code .ret,.inBlock 0,.code (cR 31)] PB []:={}
noncomputable abbrev A6:List (Nat×AV):=[(0,.bF 0),(3,.bF 3),(6,bC 65),(8,bC 68),(10,sA 80 83 81 82)]
theorem alP:Pc 61 167 [.inRegion (opsOf (cR 31482)) [],.code .ret,.inBlock 0,.code (cR 31)] (A6) [] [] [] 1 [] [8] Pw [bC 68] []:={}
noncomputable abbrev ud:List (Nat×AV):=[(0,.bF 0),(3,.bF 3),(6,bC 65),(8,bC 68),(10,sA 80 83 81 82),(9,bC 64),(13,bC 67)]
noncomputable abbrev ue:List Item:=[.inRegion (opsOf (cR 62)) [],.code (cR 63)]
theorem alQ:Pc 61 167 ue (ud) [((.cmp .neq (v 21) (.lit 1)),true)] [(eD 67 0,i8 (v 21)),(eD 67 1,i64 (v 22))] rA 14 [68] [8] [.code .ret,.code (cR 127)] [bC 68] PA:={}
noncomputable abbrev uf:List (AA×AV):=[(eD 67 0,i8 (v 21)),(eD 67 1,i64 (v 22)),(eD 64 0,i8 (v 1))]
theorem alR:Pc 61 167 ue (ud) [((.cmp .neq (v 21) (.lit 1)),false),((.cmp .eql (v 1) (.lit 12)),true),((.cmp .neq (v 22) (.lit 0)),true)] uf [] 32 [] [0,3,6,8,10] [.code (cR 65188),.code .ret,.code (cR 8149),.inBlock 3,.code (cR 255)] PB []:={}
theorem alS:Pc 61 167 ue (ud) [((.cmp .neq (v 21) (.lit 1)),false),((.cmp .eql (v 1) (.lit 12)),true),((.cmp .neq (v 22) (.lit 0)),false)] uf [] 33 [] [0,3,6,8,10] [.code (cR 16298),.code .ret,.inBlock 3,.code (cR 255)] PB []:={}
theorem alT:Pc 61 167 [.inRegion (opsOf (cR 65188)) [],.code .ret,.code (cR 8149),.inBlock 3,.code (cR 255)] (A6) [] [] [] 1 [] [8] [.code .ret,.code (cR 8149),.inBlock 3,.code (cR 255)] [bC 68] []:={}
noncomputable abbrev A7:List Item:=[.code .ret,.inBlock 3,.code (cR 255)]
theorem alU:Pc 61 167 [.inRegion (opsOf (cR 16298)) [],.code .ret,.inBlock 3,.code (cR 255)] (A6) [] [] [] 1 [] [8] A7 [bC 68] []:={}
theorem alV:Pc 61 167 ue (ud) [((.cmp .neq (v 21) (.lit 1)),false),((.cmp .eql (v 1) (.lit 12)),false),((.cmp .eql (v 1) (.lit 3)),true)] uf rA 37 [68] [8] A7 [bC 68] [(68,.cells [i8 (.lit 1),i64 (.op .sub .i64 (.lit 0) (v 22))] 43)]:={}
theorem alW:Pc 61 167 ue (ud) [((.cmp .neq (v 21) (.lit 1)),false),((.cmp .eql (v 1) (.lit 12)),false),((.cmp .eql (v 1) (.lit 3)),false),((.cmp .eql (v 1) (.lit 13)),true)] uf rA 42 [68] [8] A7 [bC 68] [(68,.cells [i8 (.lit 2),i64 (v 22)] 43)]:={}
theorem alX:Pc 61 167 ue (ud) [((.cmp .neq (v 21) (.lit 1)),false),((.cmp .eql (v 1) (.lit 12)),false),((.cmp .eql (v 1) (.lit 3)),false),((.cmp .eql (v 1) (.lit 13)),false),((.cmp .eql (v 1) (.lit 14)),true)] uf rA 48 [68] [8] A7 [bC 68] [(68,.cells [i8 (.lit 3),i64 (v 22)] 43)]:={}
theorem alY:Pc 61 167 ue (ud) [((.cmp .neq (v 21) (.lit 1)),false),((.cmp .eql (v 1) (.lit 12)),false),((.cmp .eql (v 1) (.lit 3)),false),((.cmp .eql (v 1) (.lit 13)),false),((.cmp .eql (v 1) (.lit 14)),false),((.cmp .eql (v 1) (.lit 15)),true)] [(eD 67 0,i8 (v 21)),(eD 67 1,i64 (v 22)),(eD 64 0,i8 (v 1)),(eD 65 0,i64 (v 31)),(eD 65 1,i64 (v 32)),(eD 65 2,i64 (v 33)),(eD 65 3,i64 (v 34))] [] 52 [] [8,114,116] [.inRegion (opsOf (cR 2086908)) [3,4],.code .ret,.inBlock 3,.code (cR 255)] [bC 68,.agg dR,i64 (v 22)] []:={}
theorem alZ:dy 167 (opsOf (cR 2086908)) 3 [(114,.bF 114),(116,.bF 116)] 83 [.bF 114,.bF 116] 117:={}
theorem al0:j7 167 (opsOf (cR 2086908)) 4 [] (.store 43 (.tmp 8) (.tmp 117)) 0 none:={}
theorem al4:Pc 61 167 [.inRegion (opsOf (cR 2086908)) [],.code .ret,.inBlock 3,.code (cR 255)] ([(8,bC 68)]) [] [] [] 1 [] [8] A7 [bC 68] []:={}
theorem al7:Pc 61 167 ue (ud) [((.cmp .neq (v 21) (.lit 1)),false),((.cmp .eql (v 1) (.lit 12)),false),((.cmp .eql (v 1) (.lit 3)),false),((.cmp .eql (v 1) (.lit 13)),false),((.cmp .eql (v 1) (.lit 14)),false),((.cmp .eql (v 1) (.lit 15)),false),((.cmp .eql (v 1) (.lit 16)),true)] uf rA 58 [68] [8] A7 [bC 68] PA:={}
noncomputable abbrev vD:List Item:=[.code (cR 8180),.inLoop (cR 8180),.inBlock 4,.code (cR 1023)]
theorem al_:Pc 61 167 ue (ud) [((.cmp .neq (v 21) (.lit 1)),false),((.cmp .eql (v 1) (.lit 12)),false),((.cmp .eql (v 1) (.lit 3)),false),((.cmp .eql (v 1) (.lit 13)),false),((.cmp .eql (v 1) (.lit 14)),false),((.cmp .eql (v 1) (.lit 15)),false),((.cmp .eql (v 1) (.lit 16)),false)] uf [] 68 [100] [0,3,6,8,9,10,13,14,15] vD [.bF 0,.bF 3,bC 65,bC 68,bC 64,sA 80 83 81 82,bC 67,bC 100,i64 (.lit 1)] [(100,.cells [i8 (v 21),i64 (v 22)] 43)]:={}
noncomputable abbrev EG:List (Nat×AV):=[(0,.bF 0),(3,.bF 3),(6,bC 65),(8,bC 68),(9,bC 64),(10,sA 80 83 81 82),(13,bC 67),(14,bC 69),(15,i64 (v 15))]
theorem al':Pc 61 167 vD (EG) (fo 15 81) [] [] 13 [] [0,3,6,8,9,10,13,14,15] [.code (cR 130888),.code (cR 130889),.inBlock 5,.code (cR 32723),.inLoop (cR 8180),.inBlock 4,.code (cR 1023)] [.bF 0,.bF 3,bC 65,bC 68,bC 64,sA 80 83 81 82,bC 67,bC 69,i64 (v 15)] []:={}
noncomputable abbrev aeb:List Item:=[.inRegion (opsOf (cR 130888)) [],.code (cR 130889),.inBlock 5,.code (cR 32723),.inLoop (cR 8180),.inBlock 4,.code (cR 1023)]
noncomputable abbrev PC:List (AA×AV):=[(eD 69 0,i8 (v 23)),(eD 69 1,i64 (v 24))]
theorem ama:Pc 61 167 aeb (EG) [((.cmp .neq (v 23) (.lit 1)),true)] PC rA 13 [68] [8] [.code .ret,.inBlock 5,.code (cR 32723),.inLoop (cR 8180),.inBlock 4,.code (cR 1023)] [bC 68] [(68,.cells [i8 (v 23),i64 (v 24)] 43)]:={}
theorem amb:Pc 61 167 aeb (EG) [((.cmp .neq (v 23) (.lit 1)),false)] PC [] 16 [] [0,3,6,8,9,10,13,14,15] vD [.bF 0,.bF 3,bC 65,bC 68,bC 64,sA 80 83 81 82,bC 67,bC 69,i64 (.op .add .i64 (v 15) (.lit 1))] []:={}
noncomputable abbrev EH:List (Nat×bQ):=[(68,.cells [i8 (.lit 0),i64 (.lit 0)] 43),(69,.cells [i8 (v 23),i64 (v 24)] 43)]
noncomputable abbrev yO:List (AA×AV):=[(eD 64 0,i8 (v 1)),(eD 67 0,i8 (v 21)),(eD 67 1,i64 (v 22))]
theorem amc:Pc 61 167 vD (EG) [((.cmp .lss (v 15) (.tn (v 81))),false),((.cmp .eql (v 1) (.lit 4)),true)] yO EH 38 [68] [8] [.code .ret] [bC 68] [(68,.cells [i8 (v 23),i64 (.op .add .i64 (v 22) (v 24))] 43)]:={}
theorem amd:Pc 61 167 vD (EG) [((.cmp .lss (v 15) (.tn (v 81))),false),((.cmp .eql (v 1) (.lit 4)),false),((.cmp .eql (v 1) (.lit 5)),true)] yO EH 44 [68] [8] [.code .ret] [bC 68] [(68,.cells [i8 (v 23),i64 (.op .sub .i64 (v 22) (v 24))] 43)]:={}
theorem ame:Pc 61 167 vD (EG) [((.cmp .lss (v 15) (.tn (v 81))),false),((.cmp .eql (v 1) (.lit 4)),false),((.cmp .eql (v 1) (.lit 5)),false),((.cmp .eql (v 1) (.lit 6)),true)] yO EH 50 [68] [8] [.code .ret] [bC 68] [(68,.cells [i8 (v 23),i64 (.op .mul .i64 (v 22) (v 24))] 43)]:={}
theorem amf:Pc 61 167 vD (EG) [((.cmp .lss (v 15) (.tn (v 81))),false),((.cmp .eql (v 1) (.lit 4)),false),((.cmp .eql (v 1) (.lit 5)),false),((.cmp .eql (v 1) (.lit 6)),false)] yO EH 42 [68] [8] [.code .ret] [bC 68] [(68,.cells [i8 (v 23),i64 (v 24)] 43)]:={}
noncomputable def Sc(l:Nat):Code:=pc (bD Tryz.f40) (pd l)
theorem Yd:bT Tryz.prog 40 [.bF 0,.bF 1,.bF 2] .normal=.ok ⟨40,12,c_ 40 [.bF 0,.bF 1,.bF 2],[.code (bD Tryz.f40)],[],.run,.normal⟩:=by kernel_rfl
theorem amg:Pc 40 12 [.code (bD Tryz.f40)] ([(0,.agg [ss 1,.bF 7,i64 (v 4)]),(1,.agg dR),(2,.bF 2)]) [] [] [] 12 [102] [6,8,9,10] [.inRegion (opsOf (Sc 6)) [4,5],.code .ret] [bC 102,.bF 7,.agg dR,.bF 2] [(102,.cells [i8 (.lit 0),i64 (.lit 0)] 43)]:={}
theorem amh:dy 12 (opsOf (Sc 6)) 4 [(8,.bF 8),(9,.bF 9),(10,.bF 10)] 61 [.bF 8,i64 (.lit 0),.bF 9,.bF 10] 11:={}
theorem ami:j7 12 (opsOf (Sc 6)) 5 [] (.store 43 (.tmp 6) (.tmp 11)) 0 none:={}
theorem amj:Pc 40 12 [.inRegion (opsOf (Sc 6)) [],.code .ret] ([(6,bC 68)]) [] [] [] 1 [] [6] [.code .ret] [bC 68] []:={}
section
variable {w:World}{cs:List Frame}{fr:Frame}{fn nt i d:Nat}{ops:Array Oper}{l:List Nat}{k:List Item}{lv:List (Nat×Value)}
theorem A8{ty:TypeId}(O:j7 nt ops i [] (.alloc 43) ty (some d))(hf:FA fn nt (.inRegion ops (i::l)::k) [] .normal lv fr)(hdn:d<nt):
  Goes (G fr cs) w fun g' w'=>∃fr' v,g'=G fr' cs∧(bA w w'∧v=bK w.heap.size∧(cy.obj 43 [cY 0,iV 0]).at Tryz.prog w' w.heap.size)∧FA fn nt (.inRegion ops l::k) [] .normal (fP d v lv) fr':=by
 refine O.go (R:=fun v w'=>bA w w'∧v=bK w.heap.size∧(cy.obj 43 [cY 0,iV 0]).at Tryz.prog w' w.heap.size) (bO [] [] []) hf hdn rfl fun tm ir x e1 e2=>?_;obtain⟨zv,hzv,oU⟩:∃z,zero? Tryz.prog 43=.ok z∧z.cells?=.ok [i8 (.lit 0),i64 (.lit 0)]:=by
  have:=Rz.zero;cases e:zero? Tryz.prog 43 with
  |error x=>rw[e]at this;cases this
  |ok i=>rw[e]at this;have h2:some i.cells?=some (.ok [i8 (.lit 0),i64 (.lit 0)]):=this;exact⟨i,rfl,au h2⟩
 unfold execOp;simp only[e1,bH,Instr.alloc,ef (ρ:=bO [] [] []) hzv];refine lM (K:=KZ 0) (gW oU (bO [] [] [])) ?_;refine⟨_,rfl,⟨fun n hn=>?_,by simp,rfl,rfl,rfl⟩,rfl,⟨(AV.evs (bO [] [] []) [i8 (.lit 0),i64 (.lit 0)]).toArray,by simp,rfl⟩⟩;show(w.heap.push _)[n]?=w.heap[n]?;rw[Array.getElem?_push];have hn:¬w.heap.size≤n:=hn;have:n≠w.heap.size:=fun e=>hn (by omega);simp[this]
end
theorem La{α:Type}{lv:List α}{a b c d:α}(h:a∈lv)(h2:b∈lv)(h3:c∈lv)(h4:d∈lv):∀q∈[a,b,c,d],q∈lv:=List.forall_mem_cons.2 ⟨h,ac7 h2 h3 h4⟩
noncomputable abbrev mR:Array Oper:=opsOf (cR 2014792)
theorem Ye:dH 167 mR 0 [] [] [(0,.bF 0)] (.bF 0) 45:={}
theorem Yf:dH 167 mR 1 [] [] [(10,sA 80 83 81 82)] (sA 80 83 81 82) 46:={}
theorem Yg:dH 167 mR 2 [] [] [(11,i64 (v 15))] (i64 (v 15)) 47:={}
abbrev Un:List (BE×Bool):=[((.cmp .lss (v 15) (.tn (v 81))),true),((.cmp .leq (.lit 0) (v 15)),true)]
theorem Yh:dH 167 mR 3 Un [] [(46,sA 80 83 81 82),(47,i64 (v 15))] (.ptr (some (eC 80 83 15))) 48:={}
theorem Yi:dH 167 mR 4 [] Es [(48,.ptr (some (eC 80 83 15)))] (i64 (v 16)) 49:={}
noncomputable abbrev ug:List (AA×AV):=[(eD 65 0,i64 (v 31)),(eD 65 1,i64 (v 32)),(eD 65 2,i64 (v 33)),(eD 65 3,i64 (v 34))]
theorem Yj:dH 167 mR 5 [] ug [(6,bC 65)] (.agg dR) 50:={}
theorem Yk:dH 167 mR 6 [] [] [(3,.bF 3)] (.bF 3) 51:={}
noncomputable abbrev A9:List AV:=[.bF 0,i64 (v 16),.agg dR,.bF 3]
theorem Yl:dy 167 mR 7 [(45,.bF 0),(49,i64 (v 16)),(50,.agg dR),(51,.bF 3)] 61 A9 52:={}
theorem Ym:j7 167 mR 8 [] (.alloc 43) 0 (some 12):={}
theorem Yn:j7 167 mR 9 [] (.store 43 (.tmp 12) (.tmp 52)) 0 none:={}
def Jf(i:Nat):Nat:=match i with
 |0=>45|1=>46|2=>47|3=>48|4=>49|5=>50|6=>51|7=>52|8=>12|_=>9999
noncomputable abbrev vE:List (Nat×AV):=Py
noncomputable abbrev aec:List (AA×AV):=[(eC 80 83 15,i64 (v 16)),(eD 65 0,i64 (v 31)),(eD 65 1,i64 (v 32)),(eD 65 2,i64 (v 33)),(eD 65 3,i64 (v 34))]
noncomputable abbrev PD:List (AA×AV):=aec
noncomputable abbrev PE:List (BE×Bool):=(fo 15 81)
noncomputable def yP(ρ:Env)(base i:Nat)(u:Value)(w:World):Prop:=match i with
 |0=>u=(.bF 0:AV).ev ρ
 |1=>u=(sA 80 83 81 82:AV).ev ρ
 |2=>u=(i64 (v 15):AV).ev ρ
 |3=>u=(.ptr (some (eC 80 83 15)):AV).ev ρ
 |4=>u=(i64 (v 16):AV).ev ρ
 |5=>u=(.agg dR:AV).ev ρ
 |6=>u=(.bF 3:AV).ev ρ
 |7=>u=(.agg [i8 (v 21),i64 (v 22)]:AV).ev ρ
 |8=>∃b,u=bK b∧base≤b∧(cy.obj 43 [cY 0,iV 0]).at Tryz.prog w b
 |_=>True
theorem G3{ρ:Env}{base:Nat}(i:Nat)(u:Value)(w w':World)(h:yP ρ base i u w)(f:bA w w'):yP ρ base i u w':=by
 unfold yP at h⊢;split at h
 all_goals first|exact h|(obtain⟨b,h1,h2,h3⟩:=h;exact⟨b,h1,h2,bP h3 f⟩)
section
variable {w w0:World}{cs:List Frame}{fr:Frame}
theorem Lb{ρ:Env}{base:Nat}{k:List Item}(pk:∀w',bA w0 w'->dV 61 #[ρ.v 0,iV (ρ.i 16),.agg #[iV (ρ.i 31),iV (ρ.i 32),iV (ρ.i 33),iV (ρ.i 34)],ρ.v 3] w' fun u w2=>bA w' w2∧u=.agg #[cY (ρ.i 21),iV (ρ.i 22)])(hb0:base≤w0.heap.size)(iH:cg ρ PE)(hmem:cq ρ w0 PD):
  ∀i,i<10->(!(Nat.beq i 9))=true->∀(l:List Nat) (w:World) (fr:Frame) (lv:List (Nat×Value)),bA w0 w->FA 61 167 (.inRegion mR (i::l)::k) [] .normal lv fr->(∀x∈told ρ vE,x∈lv)->(∀p∈jf mR i,∃v,(Jf p,v)∈lv∧yP ρ base p v w)->
   Goes (G fr cs) w fun g' w'=>∃fr' v,g'=G fr' cs∧bA w w'∧yP ρ base i v w'∧FA 61 167 (.inRegion mR l::k) [] .normal (fP (Jf i) v lv) fr':=by
 intro j hi he l w fr lv f hf hb hp;have bm:∀{j:Nat} {q:Nat×Value},(told ρ vE)[j]?=some q->q∈lv:=fun h=>hb _ (az h);rcases(by omega:j=0∨j=1∨j=2∨j=3∨j=4∨j=5∨j=6∨j=7∨j=8∨j=9)with rfl|rfl|rfl|rfl|rfl|rfl|rfl|rfl|rfl|rfl
 ·exact Ye.di ρ hf (by decide) (cX (bm (j:=0) rfl)) trivial trivial rfl
 ·exact Yf.di ρ hf (by decide) (cX (bm (j:=4) rfl)) trivial trivial rfl
 ·exact Yg.di ρ hf (by decide) (cX (bm (j:=5) rfl)) trivial trivial rfl
 ·obtain⟨v1,q1,e1⟩:=hp 1 (dI (by kernel_rfl));have e1:v1=(sA 80 83 81 82:AV).ev ρ:=e1;subst e1;obtain⟨v2,q2,e2⟩:=hp 2 (dI (by kernel_rfl));have e2:v2=(i64 (v 15):AV).ev ρ:=e2;subst e2;exact Yh.di ρ hf (by decide) (ko q1 q2) ⟨iH.1,iH.2.1,trivial⟩ trivial rfl
 ·obtain⟨v3,q3,e3⟩:=hp 3 (dI (by kernel_rfl));have e3:v3=(.ptr (some (eC 80 83 15)):AV).ev ρ:=e3;subst e3;exact Yi.di ρ hf (by decide) (cX q3) trivial ⟨f.cell hmem.1,trivial⟩ rfl
 ·exact Yj.di ρ hf (by decide) (cX (bm (j:=2) rfl)) trivial ⟨f.cell hmem.2.1,f.cell hmem.2.2.1,f.cell hmem.2.2.2.1,f.cell hmem.2.2.2.2.1,trivial⟩ rfl
 ·exact Yk.di ρ hf (by decide) (cX (bm (j:=1) rfl)) trivial trivial rfl
 ·obtain⟨v0,q0,e0⟩:=hp 0 (dI (by kernel_rfl));have e0:v0=(.bF 0:AV).ev ρ:=e0;subst e0;obtain⟨v4,q4,e4⟩:=hp 4 (dI (by kernel_rfl));have e4:v4=(i64 (v 16):AV).ev ρ:=e4;subst e4;obtain⟨v5,q5,e5⟩:=hp 5 (dI (by kernel_rfl));have e5:v5=(.agg dR:AV).ev ρ:=e5;subst e5;obtain⟨v6,q6,e6⟩:=hp 6 (dI (by kernel_rfl));have e6:v6=(.bF 3:AV).ev ρ:=e6;subst e6;exact Yl.di ρ (Q:=fun u w'=>u=(.agg [i8 (v 21),i64 (v 22)]:AV).ev ρ) hf (La q0 q4 q5 q6) (fun w' f1=>pk w' (f.trans f1))
 ·refine(A8 Ym hf (by decide)).mono fun g' w' hd=>?_;obtain⟨fr',u,rfl,⟨f1,rfl,zV⟩,F1⟩:=hd;exact⟨fr',_,rfl,f1,⟨_,rfl,ax hb0 f.size,zV⟩,F1⟩
 ·exact absurd he (by decide)
theorem PF{ρ:Env}{base:Nat}{k:List Item}{lv:List (Nat×Value)}(pk:∀w',bA w w'->dV 61 #[ρ.v 0,iV (ρ.i 16),.agg #[iV (ρ.i 31),iV (ρ.i 32),iV (ρ.i 33),iV (ρ.i 34)],ρ.v 3] w' fun u w2=>bA w' w2∧u=.agg #[cY (ρ.i 21),iV (ρ.i 22)])(hb0:base≤w.heap.size)(iH:cg ρ PE)(hmem:cq ρ w PD)(hl:eZ lv (told ρ vE))(hf:FA 61 167 (.code (cR 2014792)::k) [] .normal lv fr):
  Goes (G fr cs) w fun g' w'=>∃fr' jm,g'=G fr' cs∧bA w w'∧FA 61 167 (.inRegion mR [9]::k) [] .normal jm fr'∧(∀x∈told ρ vE,x∈jm)∧∀i,i<10->(!(Nat.beq i 9))=true->∃v,(Jf i,v)∈jm∧yP ρ base i v w':=by
 obtain⟨id,hid⟩:=gS (c:=cR 2014792) (by kernel_rfl);have hf:=hf.only hl;rw[hid]at hf;refine(gQ hf).trans fun g1 w1 hd=>?_;obtain⟨ls,bR,rfl,f1,hs,F1⟩:=hd;refine(iw (b:=told ρ vE) (nm:=Jf) (val:=yP ρ base) (early:=fun i=>!(Nat.beq i 9)) (late:=[9]) (n:=10) (w0:=w) (by kernel_rfl) (by kernel_rfl) (by kernel_rfl) (by kernel_rfl) (by kernel_rfl) (by kernel_rfl) (by kernel_rfl) (bx _ _) G3 (Lb pk hb0 iH hmem) ls [] f1 (fun i hi=>by cases hi) hs ⟨_,F1,fun x hx=>hx,fun i hi=>by cases hi⟩).mono fun g2 w2 b_=>?_;obtain⟨cE,lv,h1,h2,h3,h4,h5⟩:=b_;exact⟨cE,lv,h1,h2,h3,h4,h5⟩
end
noncomputable abbrev ou:Array Oper:=opsOf (cR 31482)
theorem Yo:dH 167 ou 0 [] [] [(0,.bF 0)] (.bF 0) 57:={}
theorem Yp:dH 167 ou 1 [] [] [(10,sA 80 83 81 82)] (sA 80 83 81 82) 58:={}
theorem Yq:dH 167 ou 2 O9 [] [(58,sA 80 83 81 82)] (.ptr (some ⟨(.dyn 80),(v 83)⟩)) 59:={}
theorem Yr:dH 167 ou 3 [] [(⟨(.dyn 80),(v 83)⟩,i64 (v 16))] [(59,.ptr (some ⟨(.dyn 80),(v 83)⟩))] (i64 (v 16)) 60:={}
theorem Ys:dH 167 ou 4 [] ug [(6,bC 65)] (.agg dR) 61:={}
theorem Yt:dH 167 ou 5 [] [] [(3,.bF 3)] (.bF 3) 62:={}
theorem Yu:dy 167 ou 6 [(57,.bF 0),(60,i64 (v 16)),(61,.agg dR),(62,.bF 3)] 61 A9 63:={}
theorem Yv:j7 167 ou 7 [] (.store 43 (.tmp 8) (.tmp 63)) 0 none:={}
def Jg(i:Nat):Nat:=match i with
 |0=>57|1=>58|2=>59|3=>60|4=>61|5=>62|6=>63|_=>9999
noncomputable abbrev vF:List (Nat×AV):=A6
noncomputable abbrev PG:List (AA×AV):=[(⟨(.dyn 80),(.plus (.tn (v 83)) (.lit 0))⟩,i64 (v 16)),(⟨(.dyn 80),(v 83)⟩,i64 (v 16)),(eD 65 0,i64 (v 31)),(eD 65 1,i64 (v 32)),(eD 65 2,i64 (v 33)),(eD 65 3,i64 (v 34))]
noncomputable abbrev PI:List (BE×Bool):=Ew
noncomputable def yQ(ρ:Env)(i:Nat)(u:Value)(w:World):Prop:=match i with
 |0=>u=(.bF 0:AV).ev ρ
 |1=>u=(sA 80 83 81 82:AV).ev ρ
 |2=>u=(.ptr (some ⟨(.dyn 80),(v 83)⟩):AV).ev ρ
 |3=>u=(i64 (v 16):AV).ev ρ
 |4=>u=(.agg dR:AV).ev ρ
 |5=>u=(.bF 3:AV).ev ρ
 |6=>u=(.agg [i8 (v 21),i64 (v 22)]:AV).ev ρ
 |_=>True
theorem G4{ρ:Env}(i:Nat)(u:Value)(w w':World)(h:yQ ρ i u w)(f:bA w w'):yQ ρ i u w':=by
 unfold yQ at h⊢;split at h
 all_goals first|exact h
section
variable {w w0:World}{cs:List Frame}{fr:Frame}
theorem Lc{ρ:Env}{k:List Item}(pk:∀w',bA w0 w'->dV 61 #[ρ.v 0,iV (ρ.i 16),.agg #[iV (ρ.i 31),iV (ρ.i 32),iV (ρ.i 33),iV (ρ.i 34)],ρ.v 3] w' fun u w2=>bA w' w2∧u=.agg #[cY (ρ.i 21),iV (ρ.i 22)])(iH:cg ρ PI)(hmem:cq ρ w0 PG):
  ∀i,i<8->(!(Nat.beq i 7))=true->∀(l:List Nat) (w:World) (fr:Frame) (lv:List (Nat×Value)),bA w0 w->FA 61 167 (.inRegion ou (i::l)::k) [] .normal lv fr->(∀x∈told ρ vF,x∈lv)->(∀p∈jf ou i,∃v,(Jg p,v)∈lv∧yQ ρ p v w)->
   Goes (G fr cs) w fun g' w'=>∃fr' v,g'=G fr' cs∧bA w w'∧yQ ρ i v w'∧FA 61 167 (.inRegion ou l::k) [] .normal (fP (Jg i) v lv) fr':=by
 intro j hi he l w fr lv f hf hb hp;have bm:∀{j:Nat} {q:Nat×Value},(told ρ vF)[j]?=some q->q∈lv:=fun h=>hb _ (az h);rcases(by omega:j=0∨j=1∨j=2∨j=3∨j=4∨j=5∨j=6∨j=7)with rfl|rfl|rfl|rfl|rfl|rfl|rfl|rfl
 ·exact Yo.di ρ hf (by decide) (cX (bm (j:=0) rfl)) trivial trivial rfl
 ·exact Yp.di ρ hf (by decide) (cX (bm (j:=4) rfl)) trivial trivial rfl
 ·obtain⟨v1,q1,e1⟩:=hp 1 (dI (by kernel_rfl));have e1:v1=(sA 80 83 81 82:AV).ev ρ:=e1;subst e1;exact Yq.di ρ hf (by decide) (cX q1) ⟨iH.1,trivial⟩ trivial rfl
 ·obtain⟨v2,q2,e2⟩:=hp 2 (dI (by kernel_rfl));have e2:v2=(.ptr (some ⟨(.dyn 80),(v 83)⟩):AV).ev ρ:=e2;subst e2;exact Yr.di ρ hf (by decide) (cX q2) trivial ⟨f.cell hmem.2.1,trivial⟩ rfl
 ·exact Ys.di ρ hf (by decide) (cX (bm (j:=2) rfl)) trivial ⟨f.cell hmem.2.2.1,f.cell hmem.2.2.2.1,f.cell hmem.2.2.2.2.1,f.cell hmem.2.2.2.2.2.1,trivial⟩ rfl
 ·exact Yt.di ρ hf (by decide) (cX (bm (j:=1) rfl)) trivial trivial rfl
 ·obtain⟨v0,q0,e0⟩:=hp 0 (dI (by kernel_rfl));have e0:v0=(.bF 0:AV).ev ρ:=e0;subst e0;obtain⟨v3,q3,e3⟩:=hp 3 (dI (by kernel_rfl));have e3:v3=(i64 (v 16):AV).ev ρ:=e3;subst e3;obtain⟨v4,q4,e4⟩:=hp 4 (dI (by kernel_rfl));have e4:v4=(.agg dR:AV).ev ρ:=e4;subst e4;obtain⟨v5,q5,e5⟩:=hp 5 (dI (by kernel_rfl));have e5:v5=(.bF 3:AV).ev ρ:=e5;subst e5;exact Yu.di ρ (Q:=fun u w'=>u=(.agg [i8 (v 21),i64 (v 22)]:AV).ev ρ) hf (La q0 q3 q4 q5) (fun w' f1=>pk w' (f.trans f1))
 ·exact absurd he (by decide)
theorem PJ{ρ:Env}{k:List Item}{lv:List (Nat×Value)}(pk:∀w',bA w w'->dV 61 #[ρ.v 0,iV (ρ.i 16),.agg #[iV (ρ.i 31),iV (ρ.i 32),iV (ρ.i 33),iV (ρ.i 34)],ρ.v 3] w' fun u w2=>bA w' w2∧u=.agg #[cY (ρ.i 21),iV (ρ.i 22)])(iH:cg ρ PI)(hmem:cq ρ w PG)(hl:eZ lv (told ρ vF))(hf:FA 61 167 (.code (cR 31482)::k) [] .normal lv fr):
  Goes (G fr cs) w fun g' w'=>∃fr' jm,g'=G fr' cs∧bA w w'∧FA 61 167 (.inRegion ou [7]::k) [] .normal jm fr'∧(∀x∈told ρ vF,x∈jm)∧∀i,i<8->(!(Nat.beq i 7))=true->∃v,(Jg i,v)∈jm∧yQ ρ i v w':=by
 obtain⟨id,hid⟩:=gS (c:=cR 31482) (by kernel_rfl);have hf:=hf.only hl;rw[hid]at hf;refine(gQ hf).trans fun g1 w1 hd=>?_;obtain⟨ls,bR,rfl,f1,hs,F1⟩:=hd;refine(iw (b:=told ρ vF) (nm:=Jg) (val:=yQ ρ) (early:=fun i=>!(Nat.beq i 7)) (late:=[7]) (n:=8) (w0:=w) (by kernel_rfl) (by kernel_rfl) (by kernel_rfl) (by kernel_rfl) (by kernel_rfl) (by kernel_rfl) (by kernel_rfl) (bx _ _) G4 (Lc pk iH hmem) ls [] f1 (fun i hi=>by cases hi) hs ⟨_,F1,fun x hx=>hx,fun i hi=>by cases hi⟩).mono fun g2 w2 b_=>?_;obtain⟨cE,lv,h1,h2,h3,h4,h5⟩:=b_;exact⟨cE,lv,h1,h2,h3,h4,h5⟩
end
noncomputable abbrev nD:Array Oper:=opsOf (cR 62)
theorem Yw:dH 167 nD 0 [] [] [(0,.bF 0)] (.bF 0) 64:={}
theorem Yx:dH 167 nD 1 [] [] [(10,sA 80 83 81 82)] (sA 80 83 81 82) 65:={}
theorem Yy:dH 167 nD 2 O9 [] [(65,sA 80 83 81 82)] (.ptr (some ⟨(.dyn 80),(v 83)⟩)) 66:={}
theorem Yz:dH 167 nD 3 [] [(⟨(.dyn 80),(v 83)⟩,i64 (v 16))] [(66,.ptr (some ⟨(.dyn 80),(v 83)⟩))] (i64 (v 16)) 67:={}
theorem YA:dH 167 nD 4 [] ug [(6,bC 65)] (.agg dR) 68:={}
theorem YB:dH 167 nD 5 [] [] [(3,.bF 3)] (.bF 3) 69:={}
theorem YC:dy 167 nD 6 [(64,.bF 0),(67,i64 (v 16)),(68,.agg dR),(69,.bF 3)] 61 A9 70:={}
theorem YD:j7 167 nD 7 [] (.alloc 43) 0 (some 13):={}
theorem YE:j7 167 nD 8 [] (.store 43 (.tmp 13) (.tmp 70)) 0 none:={}
def Jh(i:Nat):Nat:=match i with
 |0=>64|1=>65|2=>66|3=>67|4=>68|5=>69|6=>70|7=>13|_=>9999
noncomputable abbrev vG:List (Nat×AV):=[(0,.bF 0),(3,.bF 3),(6,bC 65),(8,bC 68),(10,sA 80 83 81 82),(9,bC 64)]
noncomputable abbrev PK:List (AA×AV):=[(⟨(.dyn 80),(.plus (.tn (v 83)) (.lit 0))⟩,i64 (v 16)),(⟨(.dyn 80),(v 83)⟩,i64 (v 16)),(eD 65 0,i64 (v 31)),(eD 65 1,i64 (v 32)),(eD 65 2,i64 (v 33)),(eD 65 3,i64 (v 34))]
noncomputable abbrev PL:List (BE×Bool):=Ew
noncomputable def yR(ρ:Env)(base i:Nat)(u:Value)(w:World):Prop:=match i with
 |0=>u=(.bF 0:AV).ev ρ
 |1=>u=(sA 80 83 81 82:AV).ev ρ
 |2=>u=(.ptr (some ⟨(.dyn 80),(v 83)⟩):AV).ev ρ
 |3=>u=(i64 (v 16):AV).ev ρ
 |4=>u=(.agg dR:AV).ev ρ
 |5=>u=(.bF 3:AV).ev ρ
 |6=>u=(.agg [i8 (v 21),i64 (v 22)]:AV).ev ρ
 |7=>∃b,u=bK b∧base≤b∧(cy.obj 43 [cY 0,iV 0]).at Tryz.prog w b
 |_=>True
theorem G5{ρ:Env}{base:Nat}(i:Nat)(u:Value)(w w':World)(h:yR ρ base i u w)(f:bA w w'):yR ρ base i u w':=by
 unfold yR at h⊢;split at h
 all_goals first|exact h|(obtain⟨b,h1,h2,h3⟩:=h;exact⟨b,h1,h2,bP h3 f⟩)
section
variable {w w0:World}{cs:List Frame}{fr:Frame}
theorem Ld{ρ:Env}{base:Nat}{k:List Item}(pk:∀w',bA w0 w'->dV 61 #[ρ.v 0,iV (ρ.i 16),.agg #[iV (ρ.i 31),iV (ρ.i 32),iV (ρ.i 33),iV (ρ.i 34)],ρ.v 3] w' fun u w2=>bA w' w2∧u=.agg #[cY (ρ.i 21),iV (ρ.i 22)])(hb0:base≤w0.heap.size)(iH:cg ρ PL)(hmem:cq ρ w0 PK):
  ∀i,i<9->(!(Nat.beq i 8))=true->∀(l:List Nat) (w:World) (fr:Frame) (lv:List (Nat×Value)),bA w0 w->FA 61 167 (.inRegion nD (i::l)::k) [] .normal lv fr->(∀x∈told ρ vG,x∈lv)->(∀p∈jf nD i,∃v,(Jh p,v)∈lv∧yR ρ base p v w)->
   Goes (G fr cs) w fun g' w'=>∃fr' v,g'=G fr' cs∧bA w w'∧yR ρ base i v w'∧FA 61 167 (.inRegion nD l::k) [] .normal (fP (Jh i) v lv) fr':=by
 intro j hi he l w fr lv f hf hb hp;have bm:∀{j:Nat} {q:Nat×Value},(told ρ vG)[j]?=some q->q∈lv:=fun h=>hb _ (az h);rcases(by omega:j=0∨j=1∨j=2∨j=3∨j=4∨j=5∨j=6∨j=7∨j=8)with rfl|rfl|rfl|rfl|rfl|rfl|rfl|rfl|rfl
 ·exact Yw.di ρ hf (by decide) (cX (bm (j:=0) rfl)) trivial trivial rfl
 ·exact Yx.di ρ hf (by decide) (cX (bm (j:=4) rfl)) trivial trivial rfl
 ·obtain⟨v1,q1,e1⟩:=hp 1 (dI (by kernel_rfl));have e1:v1=(sA 80 83 81 82:AV).ev ρ:=e1;subst e1;exact Yy.di ρ hf (by decide) (cX q1) ⟨iH.1,trivial⟩ trivial rfl
 ·obtain⟨v2,q2,e2⟩:=hp 2 (dI (by kernel_rfl));have e2:v2=(.ptr (some ⟨(.dyn 80),(v 83)⟩):AV).ev ρ:=e2;subst e2;exact Yz.di ρ hf (by decide) (cX q2) trivial ⟨f.cell hmem.2.1,trivial⟩ rfl
 ·exact YA.di ρ hf (by decide) (cX (bm (j:=2) rfl)) trivial ⟨f.cell hmem.2.2.1,f.cell hmem.2.2.2.1,f.cell hmem.2.2.2.2.1,f.cell hmem.2.2.2.2.2.1,trivial⟩ rfl
 ·exact YB.di ρ hf (by decide) (cX (bm (j:=1) rfl)) trivial trivial rfl
 ·obtain⟨v0,q0,e0⟩:=hp 0 (dI (by kernel_rfl));have e0:v0=(.bF 0:AV).ev ρ:=e0;subst e0;obtain⟨v3,q3,e3⟩:=hp 3 (dI (by kernel_rfl));have e3:v3=(i64 (v 16):AV).ev ρ:=e3;subst e3;obtain⟨v4,q4,e4⟩:=hp 4 (dI (by kernel_rfl));have e4:v4=(.agg dR:AV).ev ρ:=e4;subst e4;obtain⟨v5,q5,e5⟩:=hp 5 (dI (by kernel_rfl));have e5:v5=(.bF 3:AV).ev ρ:=e5;subst e5;exact YC.di ρ (Q:=fun u w'=>u=(.agg [i8 (v 21),i64 (v 22)]:AV).ev ρ) hf (La q0 q3 q4 q5) (fun w' f1=>pk w' (f.trans f1))
 ·refine(A8 YD hf (by decide)).mono fun g' w' hd=>?_;obtain⟨fr',u,rfl,⟨f1,rfl,zV⟩,F1⟩:=hd;exact⟨fr',_,rfl,f1,⟨_,rfl,ax hb0 f.size,zV⟩,F1⟩
 ·exact absurd he (by decide)
theorem PM{ρ:Env}{base:Nat}{k:List Item}{lv:List (Nat×Value)}(pk:∀w',bA w w'->dV 61 #[ρ.v 0,iV (ρ.i 16),.agg #[iV (ρ.i 31),iV (ρ.i 32),iV (ρ.i 33),iV (ρ.i 34)],ρ.v 3] w' fun u w2=>bA w' w2∧u=.agg #[cY (ρ.i 21),iV (ρ.i 22)])(hb0:base≤w.heap.size)(iH:cg ρ PL)(hmem:cq ρ w PK)(hl:eZ lv (told ρ vG))(hf:FA 61 167 (.code (cR 62)::k) [] .normal lv fr):
  Goes (G fr cs) w fun g' w'=>∃fr' jm,g'=G fr' cs∧bA w w'∧FA 61 167 (.inRegion nD [8]::k) [] .normal jm fr'∧(∀x∈told ρ vG,x∈jm)∧∀i,i<9->(!(Nat.beq i 8))=true->∃v,(Jh i,v)∈jm∧yR ρ base i v w':=by
 obtain⟨id,hid⟩:=gS (c:=cR 62) (by kernel_rfl);have hf:=hf.only hl;rw[hid]at hf;refine(gQ hf).trans fun g1 w1 hd=>?_;obtain⟨ls,bR,rfl,f1,hs,F1⟩:=hd;refine(iw (b:=told ρ vG) (nm:=Jh) (val:=yR ρ base) (early:=fun i=>!(Nat.beq i 8)) (late:=[8]) (n:=9) (w0:=w) (by kernel_rfl) (by kernel_rfl) (by kernel_rfl) (by kernel_rfl) (by kernel_rfl) (by kernel_rfl) (by kernel_rfl) (bx _ _) G5 (Ld pk hb0 iH hmem) ls [] f1 (fun i hi=>by cases hi) hs ⟨_,F1,fun x hx=>hx,fun i hi=>by cases hi⟩).mono fun g2 w2 b_=>?_;obtain⟨cE,lv,h1,h2,h3,h4,h5⟩:=b_;exact⟨cE,lv,h1,h2,h3,h4,h5⟩
end
noncomputable abbrev ov:Array Oper:=opsOf (cR 65188)
theorem YF:dH 167 ov 0 [] [] [(0,.bF 0)] (.bF 0) 82:={}
theorem YG:dH 167 ov 1 [] [] [(10,sA 80 83 81 82)] (sA 80 83 81 82) 83:={}
theorem YH:dH 167 ov 2 [((.cmp .lss (.lit 1) (.tn (v 81))),true)] [] [(83,sA 80 83 81 82)] (.ptr (some ⟨(.dyn 80),(.plus (.tn (v 83)) (.lit 1))⟩)) 84:={}
theorem YI:dH 167 ov 3 [] [(⟨(.dyn 80),(.plus (.tn (v 83)) (.lit 1))⟩,i64 (v 16))] [(84,.ptr (some ⟨(.dyn 80),(.plus (.tn (v 83)) (.lit 1))⟩))] (i64 (v 16)) 85:={}
theorem YJ:dH 167 ov 4 [] ug [(6,bC 65)] (.agg dR) 86:={}
theorem YK:dH 167 ov 5 [] [] [(3,.bF 3)] (.bF 3) 87:={}
theorem YL:dy 167 ov 6 [(82,.bF 0),(85,i64 (v 16)),(86,.agg dR),(87,.bF 3)] 61 A9 88:={}
theorem YM:j7 167 ov 7 [] (.store 43 (.tmp 8) (.tmp 88)) 0 none:={}
def Ji(i:Nat):Nat:=match i with
 |0=>82|1=>83|2=>84|3=>85|4=>86|5=>87|6=>88|_=>9999
noncomputable abbrev vH:List (Nat×AV):=A6
noncomputable abbrev PN:List (AA×AV):=[(⟨(.dyn 80),(.plus (.tn (v 83)) (.lit 1))⟩,i64 (v 16)),(eD 65 0,i64 (v 31)),(eD 65 1,i64 (v 32)),(eD 65 2,i64 (v 33)),(eD 65 3,i64 (v 34))]
noncomputable abbrev PO:List (BE×Bool):=IX
noncomputable def yS(ρ:Env)(i:Nat)(u:Value)(w:World):Prop:=match i with
 |0=>u=(.bF 0:AV).ev ρ
 |1=>u=(sA 80 83 81 82:AV).ev ρ
 |2=>u=(.ptr (some ⟨(.dyn 80),(.plus (.tn (v 83)) (.lit 1))⟩):AV).ev ρ
 |3=>u=(i64 (v 16):AV).ev ρ
 |4=>u=(.agg dR:AV).ev ρ
 |5=>u=(.bF 3:AV).ev ρ
 |6=>u=(.agg [i8 (v 21),i64 (v 22)]:AV).ev ρ
 |_=>True
theorem G6{ρ:Env}(i:Nat)(u:Value)(w w':World)(h:yS ρ i u w)(f:bA w w'):yS ρ i u w':=by
 unfold yS at h⊢;split at h
 all_goals first|exact h
section
variable {w w0:World}{cs:List Frame}{fr:Frame}
theorem Le{ρ:Env}{k:List Item}(pk:∀w',bA w0 w'->dV 61 #[ρ.v 0,iV (ρ.i 16),.agg #[iV (ρ.i 31),iV (ρ.i 32),iV (ρ.i 33),iV (ρ.i 34)],ρ.v 3] w' fun u w2=>bA w' w2∧u=.agg #[cY (ρ.i 21),iV (ρ.i 22)])(iH:cg ρ PO)(hmem:cq ρ w0 PN):
  ∀i,i<8->(!(Nat.beq i 7))=true->∀(l:List Nat) (w:World) (fr:Frame) (lv:List (Nat×Value)),bA w0 w->FA 61 167 (.inRegion ov (i::l)::k) [] .normal lv fr->(∀x∈told ρ vH,x∈lv)->(∀p∈jf ov i,∃v,(Ji p,v)∈lv∧yS ρ p v w)->
   Goes (G fr cs) w fun g' w'=>∃fr' v,g'=G fr' cs∧bA w w'∧yS ρ i v w'∧FA 61 167 (.inRegion ov l::k) [] .normal (fP (Ji i) v lv) fr':=by
 intro j hi he l w fr lv f hf hb hp;have bm:∀{j:Nat} {q:Nat×Value},(told ρ vH)[j]?=some q->q∈lv:=fun h=>hb _ (az h);rcases(by omega:j=0∨j=1∨j=2∨j=3∨j=4∨j=5∨j=6∨j=7)with rfl|rfl|rfl|rfl|rfl|rfl|rfl|rfl
 ·exact YF.di ρ hf (by decide) (cX (bm (j:=0) rfl)) trivial trivial rfl
 ·exact YG.di ρ hf (by decide) (cX (bm (j:=4) rfl)) trivial trivial rfl
 ·obtain⟨v1,q1,e1⟩:=hp 1 (dI (by kernel_rfl));have e1:v1=(sA 80 83 81 82:AV).ev ρ:=e1;subst e1;exact YH.di ρ hf (by decide) (cX q1) ⟨iH.1,trivial⟩ trivial rfl
 ·obtain⟨v2,q2,e2⟩:=hp 2 (dI (by kernel_rfl));have e2:v2=(.ptr (some ⟨(.dyn 80),(.plus (.tn (v 83)) (.lit 1))⟩):AV).ev ρ:=e2;subst e2;exact YI.di ρ hf (by decide) (cX q2) trivial ⟨f.cell hmem.1,trivial⟩ rfl
 ·exact YJ.di ρ hf (by decide) (cX (bm (j:=2) rfl)) trivial ⟨f.cell hmem.2.1,f.cell hmem.2.2.1,f.cell hmem.2.2.2.1,f.cell hmem.2.2.2.2.1,trivial⟩ rfl
 ·exact YK.di ρ hf (by decide) (cX (bm (j:=1) rfl)) trivial trivial rfl
 ·obtain⟨v0,q0,e0⟩:=hp 0 (dI (by kernel_rfl));have e0:v0=(.bF 0:AV).ev ρ:=e0;subst e0;obtain⟨v3,q3,e3⟩:=hp 3 (dI (by kernel_rfl));have e3:v3=(i64 (v 16):AV).ev ρ:=e3;subst e3;obtain⟨v4,q4,e4⟩:=hp 4 (dI (by kernel_rfl));have e4:v4=(.agg dR:AV).ev ρ:=e4;subst e4;obtain⟨v5,q5,e5⟩:=hp 5 (dI (by kernel_rfl));have e5:v5=(.bF 3:AV).ev ρ:=e5;subst e5;exact YL.di ρ (Q:=fun u w'=>u=(.agg [i8 (v 21),i64 (v 22)]:AV).ev ρ) hf (La q0 q3 q4 q5) (fun w' f1=>pk w' (f.trans f1))
 ·exact absurd he (by decide)
theorem PR{ρ:Env}{k:List Item}{lv:List (Nat×Value)}(pk:∀w',bA w w'->dV 61 #[ρ.v 0,iV (ρ.i 16),.agg #[iV (ρ.i 31),iV (ρ.i 32),iV (ρ.i 33),iV (ρ.i 34)],ρ.v 3] w' fun u w2=>bA w' w2∧u=.agg #[cY (ρ.i 21),iV (ρ.i 22)])(iH:cg ρ PO)(hmem:cq ρ w PN)(hl:eZ lv (told ρ vH))(hf:FA 61 167 (.code (cR 65188)::k) [] .normal lv fr):
  Goes (G fr cs) w fun g' w'=>∃fr' jm,g'=G fr' cs∧bA w w'∧FA 61 167 (.inRegion ov [7]::k) [] .normal jm fr'∧(∀x∈told ρ vH,x∈jm)∧∀i,i<8->(!(Nat.beq i 7))=true->∃v,(Ji i,v)∈jm∧yS ρ i v w':=by
 obtain⟨id,hid⟩:=gS (c:=cR 65188) (by kernel_rfl);have hf:=hf.only hl;rw[hid]at hf;refine(gQ hf).trans fun g1 w1 hd=>?_;obtain⟨ls,bR,rfl,f1,hs,F1⟩:=hd;refine(iw (b:=told ρ vH) (nm:=Ji) (val:=yS ρ) (early:=fun i=>!(Nat.beq i 7)) (late:=[7]) (n:=8) (w0:=w) (by kernel_rfl) (by kernel_rfl) (by kernel_rfl) (by kernel_rfl) (by kernel_rfl) (by kernel_rfl) (by kernel_rfl) (bx _ _) G6 (Le pk iH hmem) ls [] f1 (fun i hi=>by cases hi) hs ⟨_,F1,fun x hx=>hx,fun i hi=>by cases hi⟩).mono fun g2 w2 b_=>?_;obtain⟨cE,lv,h1,h2,h3,h4,h5⟩:=b_;exact⟨cE,lv,h1,h2,h3,h4,h5⟩
end
noncomputable abbrev ow:Array Oper:=opsOf (cR 16298)
theorem YN:dH 167 ow 0 [] [] [(0,.bF 0)] (.bF 0) 89:={}
theorem YO:dH 167 ow 1 [] [] [(10,sA 80 83 81 82)] (sA 80 83 81 82) 90:={}
theorem YP:dH 167 ow 2 [((.cmp .lss (.lit 2) (.tn (v 81))),true)] [] [(90,sA 80 83 81 82)] (.ptr (some ⟨(.dyn 80),(.plus (.tn (v 83)) (.lit 2))⟩)) 91:={}
theorem YQ:dH 167 ow 3 [] [(⟨(.dyn 80),(.plus (.tn (v 83)) (.lit 2))⟩,i64 (v 16))] [(91,.ptr (some ⟨(.dyn 80),(.plus (.tn (v 83)) (.lit 2))⟩))] (i64 (v 16)) 92:={}
theorem YR:dH 167 ow 4 [] ug [(6,bC 65)] (.agg dR) 93:={}
theorem YS:dH 167 ow 5 [] [] [(3,.bF 3)] (.bF 3) 94:={}
theorem YT:dy 167 ow 6 [(89,.bF 0),(92,i64 (v 16)),(93,.agg dR),(94,.bF 3)] 61 A9 95:={}
theorem YU:j7 167 ow 7 [] (.store 43 (.tmp 8) (.tmp 95)) 0 none:={}
def Jj(i:Nat):Nat:=match i with
 |0=>89|1=>90|2=>91|3=>92|4=>93|5=>94|6=>95|_=>9999
noncomputable abbrev vI:List (Nat×AV):=A6
noncomputable abbrev PS:List (AA×AV):=[(⟨(.dyn 80),(.plus (.tn (v 83)) (.lit 2))⟩,i64 (v 16)),(eD 65 0,i64 (v 31)),(eD 65 1,i64 (v 32)),(eD 65 2,i64 (v 33)),(eD 65 3,i64 (v 34))]
noncomputable abbrev PT:List (BE×Bool):=[((.cmp .lss (.lit 2) (.tn (v 81))),true),((.cmp .geq (.lit 2) (.tn (v 81))),false)]
noncomputable def yT(ρ:Env)(i:Nat)(u:Value)(w:World):Prop:=match i with
 |0=>u=(.bF 0:AV).ev ρ
 |1=>u=(sA 80 83 81 82:AV).ev ρ
 |2=>u=(.ptr (some ⟨(.dyn 80),(.plus (.tn (v 83)) (.lit 2))⟩):AV).ev ρ
 |3=>u=(i64 (v 16):AV).ev ρ
 |4=>u=(.agg dR:AV).ev ρ
 |5=>u=(.bF 3:AV).ev ρ
 |6=>u=(.agg [i8 (v 21),i64 (v 22)]:AV).ev ρ
 |_=>True
theorem G7{ρ:Env}(i:Nat)(u:Value)(w w':World)(h:yT ρ i u w)(f:bA w w'):yT ρ i u w':=by
 unfold yT at h⊢;split at h
 all_goals first|exact h
section
variable {w w0:World}{cs:List Frame}{fr:Frame}
theorem Lf{ρ:Env}{k:List Item}(pk:∀w',bA w0 w'->dV 61 #[ρ.v 0,iV (ρ.i 16),.agg #[iV (ρ.i 31),iV (ρ.i 32),iV (ρ.i 33),iV (ρ.i 34)],ρ.v 3] w' fun u w2=>bA w' w2∧u=.agg #[cY (ρ.i 21),iV (ρ.i 22)])(iH:cg ρ PT)(hmem:cq ρ w0 PS):
  ∀i,i<8->(!(Nat.beq i 7))=true->∀(l:List Nat) (w:World) (fr:Frame) (lv:List (Nat×Value)),bA w0 w->FA 61 167 (.inRegion ow (i::l)::k) [] .normal lv fr->(∀x∈told ρ vI,x∈lv)->(∀p∈jf ow i,∃v,(Jj p,v)∈lv∧yT ρ p v w)->
   Goes (G fr cs) w fun g' w'=>∃fr' v,g'=G fr' cs∧bA w w'∧yT ρ i v w'∧FA 61 167 (.inRegion ow l::k) [] .normal (fP (Jj i) v lv) fr':=by
 intro j hi he l w fr lv f hf hb hp;have bm:∀{j:Nat} {q:Nat×Value},(told ρ vI)[j]?=some q->q∈lv:=fun h=>hb _ (az h);rcases(by omega:j=0∨j=1∨j=2∨j=3∨j=4∨j=5∨j=6∨j=7)with rfl|rfl|rfl|rfl|rfl|rfl|rfl|rfl
 ·exact YN.di ρ hf (by decide) (cX (bm (j:=0) rfl)) trivial trivial rfl
 ·exact YO.di ρ hf (by decide) (cX (bm (j:=4) rfl)) trivial trivial rfl
 ·obtain⟨v1,q1,e1⟩:=hp 1 (dI (by kernel_rfl));have e1:v1=(sA 80 83 81 82:AV).ev ρ:=e1;subst e1;exact YP.di ρ hf (by decide) (cX q1) ⟨iH.1,trivial⟩ trivial rfl
 ·obtain⟨v2,q2,e2⟩:=hp 2 (dI (by kernel_rfl));have e2:v2=(.ptr (some ⟨(.dyn 80),(.plus (.tn (v 83)) (.lit 2))⟩):AV).ev ρ:=e2;subst e2;exact YQ.di ρ hf (by decide) (cX q2) trivial ⟨f.cell hmem.1,trivial⟩ rfl
 ·exact YR.di ρ hf (by decide) (cX (bm (j:=2) rfl)) trivial ⟨f.cell hmem.2.1,f.cell hmem.2.2.1,f.cell hmem.2.2.2.1,f.cell hmem.2.2.2.2.1,trivial⟩ rfl
 ·exact YS.di ρ hf (by decide) (cX (bm (j:=1) rfl)) trivial trivial rfl
 ·obtain⟨v0,q0,e0⟩:=hp 0 (dI (by kernel_rfl));have e0:v0=(.bF 0:AV).ev ρ:=e0;subst e0;obtain⟨v3,q3,e3⟩:=hp 3 (dI (by kernel_rfl));have e3:v3=(i64 (v 16):AV).ev ρ:=e3;subst e3;obtain⟨v4,q4,e4⟩:=hp 4 (dI (by kernel_rfl));have e4:v4=(.agg dR:AV).ev ρ:=e4;subst e4;obtain⟨v5,q5,e5⟩:=hp 5 (dI (by kernel_rfl));have e5:v5=(.bF 3:AV).ev ρ:=e5;subst e5;exact YT.di ρ (Q:=fun u w'=>u=(.agg [i8 (v 21),i64 (v 22)]:AV).ev ρ) hf (La q0 q3 q4 q5) (fun w' f1=>pk w' (f.trans f1))
 ·exact absurd he (by decide)
theorem PU{ρ:Env}{k:List Item}{lv:List (Nat×Value)}(pk:∀w',bA w w'->dV 61 #[ρ.v 0,iV (ρ.i 16),.agg #[iV (ρ.i 31),iV (ρ.i 32),iV (ρ.i 33),iV (ρ.i 34)],ρ.v 3] w' fun u w2=>bA w' w2∧u=.agg #[cY (ρ.i 21),iV (ρ.i 22)])(iH:cg ρ PT)(hmem:cq ρ w PS)(hl:eZ lv (told ρ vI))(hf:FA 61 167 (.code (cR 16298)::k) [] .normal lv fr):
  Goes (G fr cs) w fun g' w'=>∃fr' jm,g'=G fr' cs∧bA w w'∧FA 61 167 (.inRegion ow [7]::k) [] .normal jm fr'∧(∀x∈told ρ vI,x∈jm)∧∀i,i<8->(!(Nat.beq i 7))=true->∃v,(Jj i,v)∈jm∧yT ρ i v w':=by
 obtain⟨id,hid⟩:=gS (c:=cR 16298) (by kernel_rfl);have hf:=hf.only hl;rw[hid]at hf;refine(gQ hf).trans fun g1 w1 hd=>?_;obtain⟨ls,bR,rfl,f1,hs,F1⟩:=hd;refine(iw (b:=told ρ vI) (nm:=Jj) (val:=yT ρ) (early:=fun i=>!(Nat.beq i 7)) (late:=[7]) (n:=8) (w0:=w) (by kernel_rfl) (by kernel_rfl) (by kernel_rfl) (by kernel_rfl) (by kernel_rfl) (by kernel_rfl) (by kernel_rfl) (bx _ _) G7 (Lf pk iH hmem) ls [] f1 (fun i hi=>by cases hi) hs ⟨_,F1,fun x hx=>hx,fun i hi=>by cases hi⟩).mono fun g2 w2 b_=>?_;obtain⟨cE,lv,h1,h2,h3,h4,h5⟩:=b_;exact⟨cE,lv,h1,h2,h3,h4,h5⟩
end
noncomputable abbrev nF:Array Oper:=opsOf (cR 130888)
theorem YV:dH 167 nF 0 [] [] [(0,.bF 0)] (.bF 0) 128:={}
theorem YW:dH 167 nF 1 [] [] [(10,sA 80 83 81 82)] (sA 80 83 81 82) 129:={}
theorem YX:dH 167 nF 2 [] [] [(15,i64 (v 15))] (i64 (v 15)) 130:={}
theorem YY:dH 167 nF 3 Un [] [(129,sA 80 83 81 82),(130,i64 (v 15))] (.ptr (some (eC 80 83 15))) 131:={}
theorem YZ:dH 167 nF 4 [] Es [(131,.ptr (some (eC 80 83 15)))] (i64 (v 16)) 132:={}
theorem Y0:dH 167 nF 5 [] ug [(6,bC 65)] (.agg dR) 133:={}
theorem Y1:dH 167 nF 6 [] [] [(3,.bF 3)] (.bF 3) 134:={}
theorem Y2:dy 167 nF 7 [(128,.bF 0),(132,i64 (v 16)),(133,.agg dR),(134,.bF 3)] 61 A9 135:={}
theorem Y3:j7 167 nF 8 [] (.store 43 (.tmp 14) (.tmp 135)) 0 none:={}
def Jk(i:Nat):Nat:=match i with
 |0=>128|1=>129|2=>130|3=>131|4=>132|5=>133|6=>134|7=>135|_=>9999
noncomputable abbrev vJ:List (Nat×AV):=EG
noncomputable abbrev PV:List (AA×AV):=aec
noncomputable abbrev PW:List (BE×Bool):=(fo 15 81)
noncomputable def yU(ρ:Env)(i:Nat)(u:Value)(w:World):Prop:=match i with
 |0=>u=(.bF 0:AV).ev ρ
 |1=>u=(sA 80 83 81 82:AV).ev ρ
 |2=>u=(i64 (v 15):AV).ev ρ
 |3=>u=(.ptr (some (eC 80 83 15)):AV).ev ρ
 |4=>u=(i64 (v 16):AV).ev ρ
 |5=>u=(.agg dR:AV).ev ρ
 |6=>u=(.bF 3:AV).ev ρ
 |7=>u=(.agg [i8 (v 21),i64 (v 22)]:AV).ev ρ
 |_=>True
theorem G8{ρ:Env}(i:Nat)(u:Value)(w w':World)(h:yU ρ i u w)(f:bA w w'):yU ρ i u w':=by
 unfold yU at h⊢;split at h
 all_goals first|exact h
section
variable {w w0:World}{cs:List Frame}{fr:Frame}
theorem Lg{ρ:Env}{k:List Item}(pk:∀w',bA w0 w'->dV 61 #[ρ.v 0,iV (ρ.i 16),.agg #[iV (ρ.i 31),iV (ρ.i 32),iV (ρ.i 33),iV (ρ.i 34)],ρ.v 3] w' fun u w2=>bA w' w2∧u=.agg #[cY (ρ.i 21),iV (ρ.i 22)])(iH:cg ρ PW)(hmem:cq ρ w0 PV):
  ∀i,i<9->(!(Nat.beq i 8))=true->∀(l:List Nat) (w:World) (fr:Frame) (lv:List (Nat×Value)),bA w0 w->FA 61 167 (.inRegion nF (i::l)::k) [] .normal lv fr->(∀x∈told ρ vJ,x∈lv)->(∀p∈jf nF i,∃v,(Jk p,v)∈lv∧yU ρ p v w)->
   Goes (G fr cs) w fun g' w'=>∃fr' v,g'=G fr' cs∧bA w w'∧yU ρ i v w'∧FA 61 167 (.inRegion nF l::k) [] .normal (fP (Jk i) v lv) fr':=by
 intro j hi he l w fr lv f hf hb hp;have bm:∀{j:Nat} {q:Nat×Value},(told ρ vJ)[j]?=some q->q∈lv:=fun h=>hb _ (az h);rcases(by omega:j=0∨j=1∨j=2∨j=3∨j=4∨j=5∨j=6∨j=7∨j=8)with rfl|rfl|rfl|rfl|rfl|rfl|rfl|rfl|rfl
 ·exact YV.di ρ hf (by decide) (cX (bm (j:=0) rfl)) trivial trivial rfl
 ·exact YW.di ρ hf (by decide) (cX (bm (j:=5) rfl)) trivial trivial rfl
 ·exact YX.di ρ hf (by decide) (cX (bm (j:=8) rfl)) trivial trivial rfl
 ·obtain⟨v1,q1,e1⟩:=hp 1 (dI (by kernel_rfl));have e1:v1=(sA 80 83 81 82:AV).ev ρ:=e1;subst e1;obtain⟨v2,q2,e2⟩:=hp 2 (dI (by kernel_rfl));have e2:v2=(i64 (v 15):AV).ev ρ:=e2;subst e2;exact YY.di ρ hf (by decide) (ko q1 q2) ⟨iH.1,iH.2.1,trivial⟩ trivial rfl
 ·obtain⟨v3,q3,e3⟩:=hp 3 (dI (by kernel_rfl));have e3:v3=(.ptr (some (eC 80 83 15)):AV).ev ρ:=e3;subst e3;exact YZ.di ρ hf (by decide) (cX q3) trivial ⟨f.cell hmem.1,trivial⟩ rfl
 ·exact Y0.di ρ hf (by decide) (cX (bm (j:=2) rfl)) trivial ⟨f.cell hmem.2.1,f.cell hmem.2.2.1,f.cell hmem.2.2.2.1,f.cell hmem.2.2.2.2.1,trivial⟩ rfl
 ·exact Y1.di ρ hf (by decide) (cX (bm (j:=1) rfl)) trivial trivial rfl
 ·obtain⟨v0,q0,e0⟩:=hp 0 (dI (by kernel_rfl));have e0:v0=(.bF 0:AV).ev ρ:=e0;subst e0;obtain⟨v4,q4,e4⟩:=hp 4 (dI (by kernel_rfl));have e4:v4=(i64 (v 16):AV).ev ρ:=e4;subst e4;obtain⟨v5,q5,e5⟩:=hp 5 (dI (by kernel_rfl));have e5:v5=(.agg dR:AV).ev ρ:=e5;subst e5;obtain⟨v6,q6,e6⟩:=hp 6 (dI (by kernel_rfl));have e6:v6=(.bF 3:AV).ev ρ:=e6;subst e6;exact Y2.di ρ (Q:=fun u w'=>u=(.agg [i8 (v 21),i64 (v 22)]:AV).ev ρ) hf (La q0 q4 q5 q6) (fun w' f1=>pk w' (f.trans f1))
 ·exact absurd he (by decide)
theorem PX{ρ:Env}{k:List Item}{lv:List (Nat×Value)}(pk:∀w',bA w w'->dV 61 #[ρ.v 0,iV (ρ.i 16),.agg #[iV (ρ.i 31),iV (ρ.i 32),iV (ρ.i 33),iV (ρ.i 34)],ρ.v 3] w' fun u w2=>bA w' w2∧u=.agg #[cY (ρ.i 21),iV (ρ.i 22)])(iH:cg ρ PW)(hmem:cq ρ w PV)(hl:eZ lv (told ρ vJ))(hf:FA 61 167 (.code (cR 130888)::k) [] .normal lv fr):
  Goes (G fr cs) w fun g' w'=>∃fr' jm,g'=G fr' cs∧bA w w'∧FA 61 167 (.inRegion nF [8]::k) [] .normal jm fr'∧(∀x∈told ρ vJ,x∈jm)∧∀i,i<9->(!(Nat.beq i 8))=true->∃v,(Jk i,v)∈jm∧yU ρ i v w':=by
 obtain⟨id,hid⟩:=gS (c:=cR 130888) (by kernel_rfl);have hf:=hf.only hl;rw[hid]at hf;refine(gQ hf).trans fun g1 w1 hd=>?_;obtain⟨ls,bR,rfl,f1,hs,F1⟩:=hd;refine(iw (b:=told ρ vJ) (nm:=Jk) (val:=yU ρ) (early:=fun i=>!(Nat.beq i 8)) (late:=[8]) (n:=9) (w0:=w) (by kernel_rfl) (by kernel_rfl) (by kernel_rfl) (by kernel_rfl) (by kernel_rfl) (by kernel_rfl) (by kernel_rfl) (bx _ _) G8 (Lg pk iH hmem) ls [] f1 (fun i hi=>by cases hi) hs ⟨_,F1,fun x hx=>hx,fun i hi=>by cases hi⟩).mono fun g2 w2 b_=>?_;obtain⟨cE,lv,h1,h2,h3,h4,h5⟩:=b_;exact⟨cE,lv,h1,h2,h3,h4,h5⟩
end
noncomputable abbrev CmA:List Item:=Px
noncomputable abbrev CmB:List Item:=vD
theorem EI{e:Int×Int}:∀x∈[cY e.1,iV e.2],x.oneCell'=true:=by intro y hy;simp only[ai,aA,or_false]at hy;rcases hy with rfl|rfl<;>rfl
def rB(ρ:Env)(R:Nat):List (AA×AV)->Prop
 |[]=>True
 |p::r=>R≠(p.1.ev ρ).block∧rB ρ R r
theorem rB.mem{ρ:Env}{R:Nat}:∀{l:List (AA×AV)},rB ρ R l->∀p∈l,R≠(p.1.ev ρ).block
 |q::r,h,p,hp=>by
  rcases ai.1 hp with rfl|hp
  ·exact h.1
  ·exact rB.mem h.2 p hp
def Lh(f nt d:Nat):Prop:=∀st,results? Tryz.prog (OO [] [(⟨.dyn 62,.lit 0⟩,.bF 40),(⟨.dyn 62,.lit 1⟩,.bF 41)]) hN f (tmpsOf nt st [(d,bC 62)])=.ok (.agg [.bF 40,.bF 41])
theorem Y4:Lh 83 37 4:=fun st=>by kernel_rfl
theorem iX:Lh 61 167 8:=fun st=>by kernel_rfl
theorem Y5:Lh 40 12 6:=fun st=>by kernel_rfl
section
variable {w w0:World}{cs:List Frame}{fr:Frame}
theorem qh{f nt d R:Nat}{lv:List (Nat×Value)}{k:List Item}{x y V:Value}(he:Lh f nt d)(hf:FA f nt (.code .ret::k) [] .normal lv fr)(hd:gh d lv=some (bK R))(hR:(cy.obj 43 [x,y]).at Tryz.prog w R)(fw:bA w0 w)(hV:Value.agg #[x,y]=V):Goes (G fr cs) w (Out f cs w0 fun v _=>v=V):=
 (uO he hf hd (bG hR (i:=0) rfl) (bG hR (i:=1) rfl)).mono fun g2 w2 b_=>by obtain⟨cE,rfl,rfl,hL⟩:=b_;exact⟨cE,_,rfl,hL,fw,hV⟩
theorem Pc.BZ{f nt d n:Nat}{todo k:List Item}{lA:List (Nat×AV)}{lv:List (Nat×Value)}{bs:List (BE×Bool)}{mem:List (AA×AV)}{a b:AV}(P:Pc f nt todo lA bs mem rA n [68] [d] (.code .ret::k) [bC 68] [(68,.cells [a,b] 43)])(he:Lh f nt d)(ρ:Env){R:Nat}{V:Value}(hf:FA f nt todo [] .normal lv fr)(hl:eZ lv (told ρ lA))(hb:cg ρ bs)(hm:cq ρ w mem)(eR:ρ.b 68=R)(hne:rB ρ R mem)(hR:(cy.obj 43 [cY 0,iV 0]).at Tryz.prog w R)(fw:bA w0 w)(gR:w0.heap.size≤R)(hV:∀I B,Value.agg #[a.ev (dc ρ I B),b.ev (dc ρ I B)]=V):Goes (G fr cs) w (Out f cs w0 fun v _=>v=V):=by
 refine(P.Df ρ hf hl hb hm (fun p hp x hx=>by obtain rfl:=ah.1 hx;show ρ.b 68≠_;rw[eR];exact hne.mem p hp) ⟨⟨.obj 43 [cY 0,iV 0],by rw[eR];exact hR,rfl,rfl⟩,trivial⟩ eS).trans fun g1 w1 hd=>?_
 obtain⟨I,B,bR,rfl,kp,F1,bl,_⟩:=hd;have zV:(cy.obj 43 [a.ev (dc ρ I B),b.ev (dc ρ I B)]).at Tryz.prog w1 R:=by have:=bl.1.2;rw[<-eR];exact this
 have fN:FA f nt (.code .ret::k) [] .normal [(d,bK R)] bR:=by rw[<-eR];exact F1
 refine qh he fN (by unfold gh;rw[Nat.beq_refl];rfl) zV (cw fw (kp.mono fun x hx=>?_)) (hV I B);rcases hx with h|⟨p,hp,e⟩
 ·exact ax fw.size h
 ·obtain rfl:=ah.1 hp;have e:ρ.b 68=x:=e;omega
theorem Pc.Jl{f nt d n:Nat}{todo k:List Item}{lA:List (Nat×AV)}{lv:List (Nat×Value)}{bs:List (BE×Bool)}{mem:List (AA×AV)}{a b:AV}(P:Pc f nt todo lA bs mem EH n [68] [d] (.code .ret::k) [bC 68] [(68,.cells [a,b] 43)])(he:Lh f nt d)(ρ:Env){R L:Nat}{V:Value}(hf:FA f nt todo [] .normal lv fr)(hl:eZ lv (told ρ lA))(hb:cg ρ bs)(hm:cq ρ w mem)(eR:ρ.b 68=R)(eL:ρ.b 69=L)(hne:rB ρ R mem)(amk:rB ρ L mem)(Sd:R≠L)(hR:(cy.obj 43 [cY 0,iV 0]).at Tryz.prog w R)(hL:(cy.obj 43 [cY (ρ.i 23),iV (ρ.i 24)]).at Tryz.prog w L)(fw:bA w0 w)(gR:w0.heap.size≤R)(gL:w0.heap.size≤L)(hV:∀I B,Value.agg #[a.ev (dc ρ I B),b.ev (dc ρ I B)]=V):Goes (G fr cs) w (Out f cs w0 fun v _=>v=V):=by
 refine(P.Df ρ hf hl hb hm (fun p hp x hx=>by
  simp only[ai,aA,or_false]at hx;rcases hx with rfl|rfl
  ·show ρ.b 68≠_;rw[eR];exact hne.mem p hp
  ·show ρ.b 69≠_;rw[eL];exact amk.mem p hp) ⟨⟨.obj 43 [cY 0,iV 0],by rw[eR];exact hR,rfl,rfl⟩,⟨.obj 43 [cY (ρ.i 23),iV (ρ.i 24)],by rw[eL];exact hL,rfl,rfl⟩,trivial⟩ (by
  show[ρ.b 68,ρ.b 69].Nodup;rw[eR,eL];exact List.nodup_cons.2 ⟨fun h=>Sd (ah.1 h),eS⟩)).trans fun g1 w1 hd=>?_
 obtain⟨I,B,bR,rfl,kp,F1,bl,_⟩:=hd;have zV:(cy.obj 43 [a.ev (dc ρ I B),b.ev (dc ρ I B)]).at Tryz.prog w1 R:=by have:=bl.1.2;rw[<-eR];exact this
 have fN:FA f nt (.code .ret::k) [] .normal [(d,bK R)] bR:=by rw[<-eR];exact F1
 refine qh he fN (by unfold gh;rw[Nat.beq_refl];rfl) zV (cw fw (kp.mono fun x hx=>?_)) (hV I B);rcases hx with h|⟨p,hp,e⟩
 ·exact ax fw.size h
 ·simp only[ai,aA,or_false]at hp;rcases hp with rfl|rfl
  ·have e:ρ.b 68=x:=e;omega
  ·have e:ρ.b 69=x:=e;omega
theorem Li{m:cV}{k:Int}:dV 83 #[dx m,iV k] w fun v w'=>bA w w'∧v=dY (eU m k):=by
 refine Goes.iY fun cs=>?_;have E:=dU Yb rfl (dx m) (iV k);have ne:∀{x:Int},x>0->decide (x=0)=false:=fun h=>decide_eq_false (by omega);have go:∀{n:Nat} {bs:List (BE×Bool)} {kk:List Item} {a b:AV} (P:Pc 83 37 [.code (bD Tryz.f83)] rz bs [] [] n [101] [4] (.code .ret::kk) [bC 101] [(101,.cells [a,b] 43)]) (ρ:Env),eZ [(0,dx m),(1,iV k)] (told ρ rz)->cg ρ bs->∀{e:Int×Int},(∀I B,Value.agg #[a.ev (dc ρ I B),b.ev (dc ρ I B)]=dY e)->eU m k=e->Goes (G (Frame.enter Tryz.prog 83 #[dx m,iV k] .normal) cs) w (Out 83 cs w fun v w'=>v=dY (eU m k)):=fun{n bs kk a b} P ρ hl hb {e} hV he=>by refine(P.go ρ E hl hb trivial).trans fun g1 w1 hd=>?_;obtain⟨I,B,bR,rfl,f1,F1,bl,_⟩:=hd;exact qh (R:=B 101) Y4 F1 rfl bl.1.2 f1 (by rw[he];exact hV I B)
 obtain⟨ρ,hρ⟩:∃ρ:Env,ρ=bO [(31,m.mul),(32,m.add),(33,m.cJ),(34,m.panics),(5,k)] [] []:=⟨_,rfl⟩;have T:eZ [(0,dx m),(1,iV k)] (told ρ rz):=by rw[hρ];rfl
 by_cases h4:m.panics>0
 ·by_cases r4:Dw k m.panics=0
  ·exact go alv ρ T ⟨by rw[hρ];exact decide_eq_true h4,by rw[hρ];exact ne h4,by rw[hρ];exact decide_eq_true r4,trivial⟩ (e:=(3,k)) (fun _ _=>by rw[hρ];rfl) (by unfold eU;rw[if_pos ⟨h4,r4⟩])
  ·by_cases h3:m.cJ>0
   ·by_cases r3:Dw k m.cJ=0
    ·exact go alw ρ T ⟨by rw[hρ];exact decide_eq_true h4,by rw[hρ];exact ne h4,by rw[hρ];exact decide_eq_false r4,by rw[hρ];exact decide_eq_true h3,by rw[hρ];exact ne h3,by rw[hρ];exact decide_eq_true r3,trivial⟩ (e:=(2,k)) (fun _ _=>by rw[hρ];rfl) (by unfold eU;rw[if_neg fun h=>r4 h.2,if_pos ⟨h3,r3⟩])
    ·exact go alx ρ T ⟨by rw[hρ];exact decide_eq_true h4,by rw[hρ];exact ne h4,by rw[hρ];exact decide_eq_false r4,by rw[hρ];exact decide_eq_true h3,by rw[hρ];exact ne h3,by rw[hρ];exact decide_eq_false r3,trivial⟩ (e:=(1,iz .add .i64 (iz .mul .i64 k m.mul) m.add)) (fun _ _=>by rw[hρ];rfl) (by unfold eU;rw[if_neg fun h=>r4 h.2,if_neg fun h=>r3 h.2])
   ·exact go aly ρ T ⟨by rw[hρ];exact decide_eq_true h4,by rw[hρ];exact ne h4,by rw[hρ];exact decide_eq_false r4,by rw[hρ];exact decide_eq_false h3,trivial⟩ (e:=(1,iz .add .i64 (iz .mul .i64 k m.mul) m.add)) (fun _ _=>by rw[hρ];rfl) (by unfold eU;rw[if_neg fun h=>r4 h.2,if_neg fun h=>h3 h.1])
 ·by_cases h3:m.cJ>0
  ·by_cases r3:Dw k m.cJ=0
   ·exact go alz ρ T ⟨by rw[hρ];exact decide_eq_false h4,by rw[hρ];exact decide_eq_true h3,by rw[hρ];exact ne h3,by rw[hρ];exact decide_eq_true r3,trivial⟩ (e:=(2,k)) (fun _ _=>by rw[hρ];rfl) (by unfold eU;rw[if_neg fun h=>h4 h.1,if_pos ⟨h3,r3⟩])
   ·exact go alD ρ T ⟨by rw[hρ];exact decide_eq_false h4,by rw[hρ];exact decide_eq_true h3,by rw[hρ];exact ne h3,by rw[hρ];exact decide_eq_false r3,trivial⟩ (e:=(1,iz .add .i64 (iz .mul .i64 k m.mul) m.add)) (fun _ _=>by rw[hρ];rfl) (by unfold eU;rw[if_neg fun h=>h4 h.1,if_neg fun h=>r3 h.2])
  ·exact go alE ρ T ⟨by rw[hρ];exact decide_eq_false h4,by rw[hρ];exact decide_eq_false h3,trivial⟩ (e:=(1,iz .add .i64 (iz .mul .i64 k m.mul) m.add)) (fun _ _=>by rw[hρ];rfl) (by unfold eU;rw[if_neg fun h=>h4 h.1,if_neg fun h=>h3 h.1])
theorem Se{ρ:Env}{k:List Item}{lv:List (Nat×Value)}{e:Int×Int}(EJ:ρ.i 21=e.1)(EK:ρ.i 22=e.2)(pk:∀w',bA w w'->dV 61 #[ρ.v 0,iV (ρ.i 16),.agg #[iV (ρ.i 31),iV (ρ.i 32),iV (ρ.i 33),iV (ρ.i 34)],ρ.v 3] w' fun u w2=>bA w' w2∧u=dY e)(iH:cg ρ PE)(hmem:cq ρ w PD)(hl:eZ lv (told ρ vE))(hf:FA 61 167 (.code (cR 2014792)::k) [] .normal lv fr):
  Goes (G fr cs) w fun g' w'=>∃fr' b,g'=G fr' cs∧bA w w'∧w.heap.size≤b∧(cy.obj 43 [cY e.1,iV e.2]).at Tryz.prog w' b∧FA 61 167 (.inRegion mR []::k) [] .normal (told ρ vE++[(12,bK b)]) fr':=by
 refine(PF (ρ:=ρ) (base:=w.heap.size) (by rw[EJ,EK];exact pk) (ay _) iH hmem hl hf).trans fun g2 w2 b_=>?_;obtain⟨cE,AI,rfl,f2,F2,o7,kV⟩:=b_;have key:∃b,(12,bK b)∈AI∧(52,dY e)∈AI∧w.heap.size≤b∧(cy.obj 43 [cY 0,iV 0]).at Tryz.prog w2 b:=by
  obtain⟨u,q,eu⟩:=kV 7 (by decide) rfl;have eu:u=dY e:=by have:u=(.agg [i8 (v 21),i64 (v 22)]:AV).ev ρ:=eu;rw[this];show Value.agg #[cY (ρ.i 21),iV (ρ.i 22)]=_;rw[EJ,EK];rfl
  rw[eu]at q;obtain⟨u2,q2,b,rfl,MR,hB⟩:=kV 8 (by decide) rfl;exact⟨b,q2,q,MR,hB⟩
 obtain⟨b,q2,q,MR,hB⟩:=key;have lY:=F2.sub (jm:=(12,bK b)::(52,dY e)::told ρ vE) fun x hx=>by
  rcases ai.1 hx with rfl|hx
  ·exact q2
  ·rcases ai.1 hx with rfl|hx
   ·exact q
   ·exact o7 x hx
 refine(fQ (B:=b) (T:=43) (el:=43) (sz:=2) (V:=dY e) (cs':=[cY e.1,iV e.2]) Yn (by kernel_rfl) rfl rfl EI lY rfl rfl hB rfl).mono fun g3 w3 cv=>?_;obtain⟨cF,rfl,⟨kp,KG⟩,F3⟩:=cv;refine⟨cF,b,rfl,cw f2 (kp.mono fun x hx=>by rw[hx];exact MR),MR,KG,F3.sub fun x hx=>?_⟩;rcases aT.1 hx with hx|hx
 ·exact af _ (af _ hx)
 ·obtain rfl:=ah.1 hx;exact aj ..
theorem Sf{ρ:Env}{k:List Item}{lv:List (Nat×Value)}{e:Int×Int}{P:Nat}{x y:Value}(EJ:ρ.i 21=e.1)(EK:ρ.i 22=e.2)(hP:ρ.b 68=P)(hB:(cy.obj 43 [x,y]).at Tryz.prog w P)(pk:∀w',bA w w'->dV 61 #[ρ.v 0,iV (ρ.i 16),.agg #[iV (ρ.i 31),iV (ρ.i 32),iV (ρ.i 33),iV (ρ.i 34)],ρ.v 3] w' fun u w2=>bA w' w2∧u=dY e)(iH:cg ρ PI)(hmem:cq ρ w PG)(hl:eZ lv (told ρ vF))(hf:FA 61 167 (.code (cR 31482)::k) [] .normal lv fr):
  Goes (G fr cs) w fun g' w'=>∃fr',g'=G fr' cs∧bU (fun b=>w.heap.size≤b∨b=P) w w'∧(cy.obj 43 [cY e.1,iV e.2]).at Tryz.prog w' P∧FA 61 167 (.inRegion ou []::k) [] .normal (told ρ vF) fr':=by
 refine(PJ (ρ:=ρ) (by rw[EJ,EK];exact pk) iH hmem hl hf).trans fun g2 w2 b_=>?_;obtain⟨cE,AI,rfl,f2,F2,o7,kV⟩:=b_;have key:(63,dY e)∈AI:=by
  obtain⟨u,q,eu⟩:=kV 6 (by decide) rfl;have eu:u=dY e:=by have:u=(.agg [i8 (v 21),i64 (v 22)]:AV).ev ρ:=eu;rw[this];show Value.agg #[cY (ρ.i 21),iV (ρ.i 22)]=_;rw[EJ,EK];rfl
  rw[eu]at q;exact q
 have lY:=F2.sub (jm:=(63,dY e)::told ρ vF) fun x hx=>by
  rcases ai.1 hx with rfl|hx
  ·exact key
  ·exact o7 x hx
 refine(fQ (B:=P) (T:=43) (el:=43) (sz:=2) (V:=dY e) (cs':=[cY e.1,iV e.2]) Yv (by kernel_rfl) rfl rfl EI lY (by rw[<-hP];rfl) rfl (bP hB f2) rfl).mono fun g3 w3 cv=>?_;obtain⟨cF,rfl,⟨kp,KG⟩,F3⟩:=cv;refine⟨cF,rfl,bU.trans (f2.mono fun x hx=>.inl hx) (kp.mono fun x hx=>.inr hx),KG,F3.sub fun x hx=>af _ hx⟩
theorem Sg{ρ:Env}{k:List Item}{lv:List (Nat×Value)}{e:Int×Int}(EJ:ρ.i 21=e.1)(EK:ρ.i 22=e.2)(pk:∀w',bA w w'->dV 61 #[ρ.v 0,iV (ρ.i 16),.agg #[iV (ρ.i 31),iV (ρ.i 32),iV (ρ.i 33),iV (ρ.i 34)],ρ.v 3] w' fun u w2=>bA w' w2∧u=dY e)(iH:cg ρ PL)(hmem:cq ρ w PK)(hl:eZ lv (told ρ vG))(hf:FA 61 167 (.code (cR 62)::k) [] .normal lv fr):
  Goes (G fr cs) w fun g' w'=>∃fr' b,g'=G fr' cs∧bA w w'∧w.heap.size≤b∧(cy.obj 43 [cY e.1,iV e.2]).at Tryz.prog w' b∧FA 61 167 (.inRegion nD []::k) [] .normal (told ρ vG++[(13,bK b)]) fr':=by
 refine(PM (ρ:=ρ) (base:=w.heap.size) (by rw[EJ,EK];exact pk) (ay _) iH hmem hl hf).trans fun g2 w2 b_=>?_;obtain⟨cE,AI,rfl,f2,F2,o7,kV⟩:=b_;have key:∃b,(13,bK b)∈AI∧(70,dY e)∈AI∧w.heap.size≤b∧(cy.obj 43 [cY 0,iV 0]).at Tryz.prog w2 b:=by
  obtain⟨u,q,eu⟩:=kV 6 (by decide) rfl;have eu:u=dY e:=by have:u=(.agg [i8 (v 21),i64 (v 22)]:AV).ev ρ:=eu;rw[this];show Value.agg #[cY (ρ.i 21),iV (ρ.i 22)]=_;rw[EJ,EK];rfl
  rw[eu]at q;obtain⟨u2,q2,b,rfl,MR,hB⟩:=kV 7 (by decide) rfl;exact⟨b,q2,q,MR,hB⟩
 obtain⟨b,q2,q,MR,hB⟩:=key;have lY:=F2.sub (jm:=(13,bK b)::(70,dY e)::told ρ vG) fun x hx=>by
  rcases ai.1 hx with rfl|hx
  ·exact q2
  ·rcases ai.1 hx with rfl|hx
   ·exact q
   ·exact o7 x hx
 refine(fQ (B:=b) (T:=43) (el:=43) (sz:=2) (V:=dY e) (cs':=[cY e.1,iV e.2]) YE (by kernel_rfl) rfl rfl EI lY rfl rfl hB rfl).mono fun g3 w3 cv=>?_;obtain⟨cF,rfl,⟨kp,KG⟩,F3⟩:=cv;refine⟨cF,b,rfl,cw f2 (kp.mono fun x hx=>by rw[hx];exact MR),MR,KG,F3.sub fun x hx=>?_⟩;rcases aT.1 hx with hx|hx
 ·exact af _ (af _ hx)
 ·obtain rfl:=ah.1 hx;exact aj ..
theorem Si{ρ:Env}{k:List Item}{lv:List (Nat×Value)}{e:Int×Int}{P:Nat}{x y:Value}(EJ:ρ.i 21=e.1)(EK:ρ.i 22=e.2)(hP:ρ.b 68=P)(hB:(cy.obj 43 [x,y]).at Tryz.prog w P)(pk:∀w',bA w w'->dV 61 #[ρ.v 0,iV (ρ.i 16),.agg #[iV (ρ.i 31),iV (ρ.i 32),iV (ρ.i 33),iV (ρ.i 34)],ρ.v 3] w' fun u w2=>bA w' w2∧u=dY e)(iH:cg ρ PO)(hmem:cq ρ w PN)(hl:eZ lv (told ρ vH))(hf:FA 61 167 (.code (cR 65188)::k) [] .normal lv fr):
  Goes (G fr cs) w fun g' w'=>∃fr',g'=G fr' cs∧bU (fun b=>w.heap.size≤b∨b=P) w w'∧(cy.obj 43 [cY e.1,iV e.2]).at Tryz.prog w' P∧FA 61 167 (.inRegion ov []::k) [] .normal (told ρ vH) fr':=by
 refine(PR (ρ:=ρ) (by rw[EJ,EK];exact pk) iH hmem hl hf).trans fun g2 w2 b_=>?_;obtain⟨cE,AI,rfl,f2,F2,o7,kV⟩:=b_;have key:(88,dY e)∈AI:=by
  obtain⟨u,q,eu⟩:=kV 6 (by decide) rfl;have eu:u=dY e:=by have:u=(.agg [i8 (v 21),i64 (v 22)]:AV).ev ρ:=eu;rw[this];show Value.agg #[cY (ρ.i 21),iV (ρ.i 22)]=_;rw[EJ,EK];rfl
  rw[eu]at q;exact q
 have lY:=F2.sub (jm:=(88,dY e)::told ρ vH) fun x hx=>by
  rcases ai.1 hx with rfl|hx
  ·exact key
  ·exact o7 x hx
 refine(fQ (B:=P) (T:=43) (el:=43) (sz:=2) (V:=dY e) (cs':=[cY e.1,iV e.2]) YM (by kernel_rfl) rfl rfl EI lY (by rw[<-hP];rfl) rfl (bP hB f2) rfl).mono fun g3 w3 cv=>?_;obtain⟨cF,rfl,⟨kp,KG⟩,F3⟩:=cv;refine⟨cF,rfl,bU.trans (f2.mono fun x hx=>.inl hx) (kp.mono fun x hx=>.inr hx),KG,F3.sub fun x hx=>af _ hx⟩
theorem Sj{ρ:Env}{k:List Item}{lv:List (Nat×Value)}{e:Int×Int}{P:Nat}{x y:Value}(EJ:ρ.i 21=e.1)(EK:ρ.i 22=e.2)(hP:ρ.b 68=P)(hB:(cy.obj 43 [x,y]).at Tryz.prog w P)(pk:∀w',bA w w'->dV 61 #[ρ.v 0,iV (ρ.i 16),.agg #[iV (ρ.i 31),iV (ρ.i 32),iV (ρ.i 33),iV (ρ.i 34)],ρ.v 3] w' fun u w2=>bA w' w2∧u=dY e)(iH:cg ρ PT)(hmem:cq ρ w PS)(hl:eZ lv (told ρ vI))(hf:FA 61 167 (.code (cR 16298)::k) [] .normal lv fr):
  Goes (G fr cs) w fun g' w'=>∃fr',g'=G fr' cs∧bU (fun b=>w.heap.size≤b∨b=P) w w'∧(cy.obj 43 [cY e.1,iV e.2]).at Tryz.prog w' P∧FA 61 167 (.inRegion ow []::k) [] .normal (told ρ vI) fr':=by
 refine(PU (ρ:=ρ) (by rw[EJ,EK];exact pk) iH hmem hl hf).trans fun g2 w2 b_=>?_;obtain⟨cE,AI,rfl,f2,F2,o7,kV⟩:=b_;have key:(95,dY e)∈AI:=by
  obtain⟨u,q,eu⟩:=kV 6 (by decide) rfl;have eu:u=dY e:=by have:u=(.agg [i8 (v 21),i64 (v 22)]:AV).ev ρ:=eu;rw[this];show Value.agg #[cY (ρ.i 21),iV (ρ.i 22)]=_;rw[EJ,EK];rfl
  rw[eu]at q;exact q
 have lY:=F2.sub (jm:=(95,dY e)::told ρ vI) fun x hx=>by
  rcases ai.1 hx with rfl|hx
  ·exact key
  ·exact o7 x hx
 refine(fQ (B:=P) (T:=43) (el:=43) (sz:=2) (V:=dY e) (cs':=[cY e.1,iV e.2]) YU (by kernel_rfl) rfl rfl EI lY (by rw[<-hP];rfl) rfl (bP hB f2) rfl).mono fun g3 w3 cv=>?_;obtain⟨cF,rfl,⟨kp,KG⟩,F3⟩:=cv;refine⟨cF,rfl,bU.trans (f2.mono fun x hx=>.inl hx) (kp.mono fun x hx=>.inr hx),KG,F3.sub fun x hx=>af _ hx⟩
theorem Sk{ρ:Env}{k:List Item}{lv:List (Nat×Value)}{e:Int×Int}{P:Nat}{x y:Value}(EJ:ρ.i 21=e.1)(EK:ρ.i 22=e.2)(hP:ρ.b 69=P)(hB:(cy.obj 43 [x,y]).at Tryz.prog w P)(pk:∀w',bA w w'->dV 61 #[ρ.v 0,iV (ρ.i 16),.agg #[iV (ρ.i 31),iV (ρ.i 32),iV (ρ.i 33),iV (ρ.i 34)],ρ.v 3] w' fun u w2=>bA w' w2∧u=dY e)(iH:cg ρ PW)(hmem:cq ρ w PV)(hl:eZ lv (told ρ vJ))(hf:FA 61 167 (.code (cR 130888)::k) [] .normal lv fr):
  Goes (G fr cs) w fun g' w'=>∃fr',g'=G fr' cs∧bU (fun b=>w.heap.size≤b∨b=P) w w'∧(cy.obj 43 [cY e.1,iV e.2]).at Tryz.prog w' P∧FA 61 167 (.inRegion nF []::k) [] .normal (told ρ vJ) fr':=by
 refine(PX (ρ:=ρ) (by rw[EJ,EK];exact pk) iH hmem hl hf).trans fun g2 w2 b_=>?_;obtain⟨cE,AI,rfl,f2,F2,o7,kV⟩:=b_;have key:(135,dY e)∈AI:=by
  obtain⟨u,q,eu⟩:=kV 7 (by decide) rfl;have eu:u=dY e:=by have:u=(.agg [i8 (v 21),i64 (v 22)]:AV).ev ρ:=eu;rw[this];show Value.agg #[cY (ρ.i 21),iV (ρ.i 22)]=_;rw[EJ,EK];rfl
  rw[eu]at q;exact q
 have lY:=F2.sub (jm:=(135,dY e)::told ρ vJ) fun x hx=>by
  rcases ai.1 hx with rfl|hx
  ·exact key
  ·exact o7 x hx
 refine(fQ (B:=P) (T:=43) (el:=43) (sz:=2) (V:=dY e) (cs':=[cY e.1,iV e.2]) Y3 (by kernel_rfl) rfl rfl EI lY (by rw[<-hP];rfl) rfl (bP hB f2) rfl).mono fun g3 w3 cv=>?_;obtain⟨cF,rfl,⟨kp,KG⟩,F3⟩:=cv;refine⟨cF,rfl,bU.trans (f2.mono fun x hx=>.inl hx) (kp.mono fun x hx=>.inr hx),KG,F3.sub fun x hx=>af _ hx⟩
end
noncomputable def Sl(m:cV)(N c' i j:Nat)(op n:Int)(e l:Int×Int)(X Y R K O L:Nat)(s es:Value):Env:=bO [(81,N),(82,c'),(83,(0:Nat)),(15,i),(16,j),(1,op),(2,n),(21,e.1),(22,e.2),(23,l.1),(24,l.2),(31,m.mul),(32,m.add),(33,m.cJ),(34,m.panics)] [(65,Y),(68,R),(64,X),(80,K),(66,O),(67,O),(69,L)] [(0,s),(3,es)]
def PY(w0:World)(s es:Value)(m:cV)(js:List Nat)(vs:List (Int×Int)):Prop:=∀(i j:Nat) (e:Int×Int),js[i]?=some j->vs[i]?=some e->∀w',bA w0 w'->dV 61 #[s,iV j,dx m,es] w' fun v w2=>bA w' w2∧v=dY e
structure Uo(w:World)(m:cV)(op n:Int)(X Y R K c':Nat)(js:List Nat):Prop where
 x0:w.cell? ⟨X,0,none⟩=some (cY op)
 x1:w.cell? ⟨X,1,none⟩=some (iV n)
 y:(cy.obj 27 [iV m.mul,iV m.add,iV m.cJ,iV m.panics]).at Tryz.prog w Y
 r:(cy.obj 43 [cY 0,iV 0]).at Tryz.prog w R
 k:∀i j:Nat,js[i]?=some j->w.cell? ⟨K,0+i,none⟩=some (iV j)
 rx:R≠X
 ry:R≠Y
theorem Uo.keep{w w':World}{m:cV}{op n:Int}{X Y R K c':Nat}{js:List Nat}(h:Uo w m op n X Y R K c' js)(f:bA w w'):Uo w' m op n X Y R K c' js:=
 ⟨f.cell h.x0,f.cell h.x1,bP h.y f,bP h.r f,fun i j hj=>f.cell (h.k i j hj),h.rx,h.ry⟩
def rC(op x:Int):Int->List (Int×Int)->Int×Int
 |acc,[]=>(1,lu op x acc)
 |acc,e::r=>if e.1=1 then rC op x e.2 r else e
theorem vK{op x:Int}(h:op≠4∧op≠5∧op≠6):∀(r:List (Int×Int)) (acc:Int),rC op x acc r=oZ op x acc r
 |[],acc=>by unfold rC oZ lu;rw[if_neg h.1,if_neg h.2.1,if_neg h.2.2]
 |e::r,acc=>by
  unfold rC oZ;have:lu op x e.2=e.2:=by unfold lu;rw[if_neg h.1,if_neg h.2.1,if_neg h.2.2]
  rw[this,vK h r]
theorem Lj{op x:Int}(l:Int×Int)(acc:Int):rC op x acc [l]=oZ op x acc [l]:=by simp only[rC,oZ]
section
variable {w w0 w1:World}{cs:List Frame}{fr:Frame}
theorem Uo.Y6{m:cV}{op n:Int}{X Y R K c':Nat}{js:List Nat}(h:Uo w m op n X Y R K c' js){ρ:Env}(hb:ρ.b 65=Y)(h31:ρ.i 31=m.mul)(h32:ρ.i 32=m.add)(h33:ρ.i 33=m.cJ)(h34:ρ.i 34=m.panics):cq ρ w ug:=by
 refine⟨?_,?_,?_,?_,trivial⟩
 ·show w.cell? ⟨ρ.b 65,0,none⟩=some (iV (ρ.i 31));rw[hb,h31];exact bG h.y (i:=0) rfl
 ·show w.cell? ⟨ρ.b 65,1,none⟩=some (iV (ρ.i 32));rw[hb,h32];exact bG h.y (i:=1) rfl
 ·show w.cell? ⟨ρ.b 65,2,none⟩=some (iV (ρ.i 33));rw[hb,h33];exact bG h.y (i:=2) rfl
 ·show w.cell? ⟨ρ.b 65,3,none⟩=some (iV (ρ.i 34));rw[hb,h34];exact bG h.y (i:=3) rfl
theorem EL{s es:Value}{m:cV}{op n:Int}{X Y R K c':Nat}{js:List Nat}{vs:List (Int×Int)}(M:Uo w1 m op n X Y R K c' js)(LU:bA w0 w1)(gR:w0.heap.size≤R)(hl:js.length=vs.length)(hbig:js.length≤1000000)(hne:vs≠[])(hk:PY w1 s es m js vs):
  ∀(q i:Nat) {w:World} {fr:Frame},i+q=vs.length->bA w1 w->FA 61 167 CmA [] .normal [(0,s),(3,es),(6,bK Y),(8,bK R),(10,bS K 0 js.length c'),(11,iV i)] fr->
  Goes (G fr cs) w (Out 61 cs w0 fun v _=>v=dY (((vs.drop i).find? fun e=>decide (e.1=1)).getD (vs.headD (0,0))))
 |0,i,w,fr,hi,fw,hf=>by
  obtain⟨j,e,hj,he⟩:=both hl (i:=0) (bq.2 hne);have hlen:0<js.length:=by have:=bq.2 hne;omega
  obtain⟨ρ,hρ⟩:∃ρ:Env,ρ=Sl m js.length c' i j op n e (0,0) X Y R K 0 0 s es:=⟨_,rfl⟩;refine(alO.go ρ hf (by rw[hρ];rfl) ⟨by rw[hρ];exact decide_eq_false (by show ¬((i:Int)<((js.length:Nat):Int));omega),trivial⟩ trivial).trans fun g1 w1' hd=>?_;obtain⟨I,B,bR,rfl,f1,F1,_⟩:=hd;rw[hρ]at F1;have M1:=M.keep (fw.trans f1);refine(Sf (ρ:=ρ) (e:=e) (P:=R) (by rw[hρ];rfl) (by rw[hρ];rfl) (by rw[hρ];rfl) M1.r (fun w' f=>by rw[hρ];exact hk 0 j e hj he w' ((fw.trans f1).trans f)) (by rw[hρ];exact⟨decide_eq_true (by show(0:Int)<((js.length:Nat):Int);omega),decide_eq_false (by show ¬((0:Int)≥((js.length:Nat):Int));omega),trivial⟩) (cq.app (l:=[(⟨(.dyn 80),(.plus (.tn (v 83)) (.lit 0))⟩,i64 (v 16)),(⟨(.dyn 80),(v 83)⟩,i64 (v 16))]) (by rw[hρ];exact⟨M1.k 0 j hj,M1.k 0 j hj,trivial⟩) (M1.Y6 (by rw[hρ];rfl) (by rw[hρ];rfl) (by rw[hρ];rfl) (by rw[hρ];rfl) (by rw[hρ];rfl))) (by rw[hρ];rfl) F1).trans fun g2 w2 b_=>?_;obtain⟨cE,rfl,MI,hR2,F2⟩:=b_;rw[hρ]at F2;refine(alP.go ρ F2 (by rw[hρ];rfl) trivial trivial).trans fun g3 w3 cv=>?_;obtain⟨I,B,cF,rfl,f3,F3,_⟩:=cv;rw[hρ]at F3;have jT:bA w0 w2:=cw (LU.trans (fw.trans f1)) (MI.mono fun x hx=>by
   rcases hx with h|h
   ·exact ax (LU.trans (fw.trans f1)).size h
   ·rw[h];exact gR)
  refine qh iX F3 rfl (bP hR2 f3) (jT.trans f3) ?_;rw[aI (by omega)];have:vs.headD (0,0)=e:=by
   cases vs with
   |nil=>cases he
   |cons a l=>exact au he
  rw[List.find?_nil,Option.getD_none,this];rfl
 |q+1,i,w,fr,hi,fw,hf=>by
  have hlt:i<vs.length:=by omega
  obtain⟨j,e,hj,he⟩:=both hl (i:=i) hlt;obtain⟨ρ,hρ⟩:∃ρ:Env,ρ=Sl m js.length c' i j op n e (0,0) X Y R K 0 0 s es:=⟨_,rfl⟩;have bb:=bX (ρ:=ρ) (i:=15) (n:=81) (I:=i) (N:=js.length) (by rw[hρ];rfl) (by rw[hρ];rfl) (by omega);refine(alL.go ρ hf (by rw[hρ];rfl) bb trivial).trans fun g1 w1' hd=>?_;obtain⟨I,B,bR,rfl,f1,F1,_⟩:=hd;rw[hρ]at F1;have M1:=M.keep (fw.trans f1);refine(Se (ρ:=ρ) (e:=e) (by rw[hρ];rfl) (by rw[hρ];rfl) (fun w' f=>by rw[hρ];exact hk i j e hj he w' ((fw.trans f1).trans f)) bb (cq.app (l:=Es) (by rw[hρ];exact⟨M1.k i j hj,trivial⟩) (M1.Y6 (by rw[hρ];rfl) (by rw[hρ];rfl) (by rw[hρ];rfl) (by rw[hρ];rfl) (by rw[hρ];rfl))) (by rw[hρ];rfl) F1).trans fun g2 w2 b_=>?_;obtain⟨cE,O,rfl,f2,gO,hO,F2⟩:=b_;rw[hρ]at F2;have f12:=fw.trans (f1.trans f2);have LV:R≠O:=by have:=cy.jR M1.r;omega
  obtain⟨σ,cr⟩:∃σ:Env,σ=Sl m js.length c' i j op n e (0,0) X Y R K O 0 s es:=⟨_,rfl⟩;have mm:cq σ w2 Pz:=by rw[cr];exact⟨bG hO (i:=0) rfl,bG hO (i:=1) rfl,trivial⟩
  have dS:vs.drop i=e::vs.drop (i+1):=by rw[aG hlt];congr 1;exact au ((aa hlt).symm.trans he)
  rw[dS,List.find?_cons];by_cases h1:e.1=1
  ·rw[decide_eq_true h1];exact alM.BZ iX σ F2 (by rw[cr];rfl) ⟨by rw[cr];exact decide_eq_true h1,trivial⟩ mm (by rw[cr];rfl) ⟨by rw[cr];exact LV,by rw[cr];exact LV,trivial⟩ (M.keep f12).r (LU.trans f12) gR fun _ _=>by rw[cr];rfl
  ·rw[decide_eq_false h1];refine(alN.go σ F2 (by rw[cr];rfl) ⟨by rw[cr];exact decide_eq_false h1,trivial⟩ mm).trans fun g3 w3 cv=>?_;obtain⟨I,B,cF,rfl,f3,F3,_⟩:=cv;rw[cr]at F3;refine EL (c':=c') M LU gR hl hbig hne hk q (i+1) (by omega) (f12.trans f3) ?_;rw[<-inc (i:=i) (by omega)];exact F3
theorem EM{s es:Value}{m:cV}{op n x:Int}{X Y R K c' O L:Nat}{js:List Nat}{vs:List (Int×Int)}(M:Uo w1 m op n X Y R K c' js)(LU:bA w0 w1)(gR:w0.heap.size≤R)(hO:(cy.obj 43 [cY 1,iV x]).at Tryz.prog w1 O)(LV:R≠O)(gL:w1.heap.size≤L)(hl:js.length=vs.length)(hbig:js.length≤1000000)(hk:PY w1 s es m js vs):
  ∀(q i:Nat) {acc:Int} {w:World} {fr:Frame},i+q=vs.length->bA w1 w->(cy.obj 43 [cY 1,iV acc]).at Tryz.prog w L->FA 61 167 CmB [] .normal [(0,s),(3,es),(6,bK Y),(8,bK R),(9,bK X),(10,bS K 0 js.length c'),(13,bK O),(14,bK L),(15,iV i)] fr->
  Goes (G fr cs) w (Out 61 cs w0 fun v _=>v=dY (rC op x acc (vs.drop i)))
 |0,i,acc,w,fr,hi,fw,hL,hf=>by
  have M1:=M.keep fw;have hO1:=bP hO fw;have Sd:R≠L:=by have:=cy.jR M.r;omega
  have hXL:L≠X:=by have:X<w1.heap.size:=j5 M.x0;omega
  have hOL:L≠O:=by have:=cy.jR hO;omega
  obtain⟨ρ,hρ⟩:∃ρ:Env,ρ=Sl m js.length c' i 0 op n (1,x) (1,acc) X Y R K O L s es:=⟨_,rfl⟩;have b0:(BE.cmp .lss (v 15) (.tn (v 81))).ev ρ=false:=by rw[hρ];exact decide_eq_false (by show ¬((i:Int)<((js.length:Nat):Int));omega)
  have mm:cq ρ w yO:=by rw[hρ];exact⟨M1.x0,bG hO1 (i:=0) rfl,bG hO1 (i:=1) rfl,trivial⟩
  have nR:rB ρ R yO:=by rw[hρ];exact⟨M.rx,LV,LV,trivial⟩
  have nL:rB ρ L yO:=by rw[hρ];exact⟨hXL,hOL,hOL,trivial⟩
  have hL':(cy.obj 43 [cY (ρ.i 23),iV (ρ.i 24)]).at Tryz.prog w L:=by rw[hρ];exact hL
  have gL0:w0.heap.size≤L:=ax LU.size gL;rw[aI (by omega)];unfold rC lu;by_cases h4:op=4
  ·rw[if_pos h4];exact amc.Jl iX ρ hf (by rw[hρ];rfl) ⟨b0,by rw[hρ];exact decide_eq_true h4,trivial⟩ mm (by rw[hρ];rfl) (by rw[hρ];rfl) nR nL Sd M1.r hL' (LU.trans fw) gR gL0 fun _ _=>by rw[hρ];rfl
  rw[if_neg h4];by_cases h5:op=5
  ·rw[if_pos h5];exact amd.Jl iX ρ hf (by rw[hρ];rfl) ⟨b0,by rw[hρ];exact decide_eq_false h4,by rw[hρ];exact decide_eq_true h5,trivial⟩ mm (by rw[hρ];rfl) (by rw[hρ];rfl) nR nL Sd M1.r hL' (LU.trans fw) gR gL0 fun _ _=>by rw[hρ];rfl
  rw[if_neg h5];by_cases h6:op=6
  ·rw[if_pos h6];exact ame.Jl iX ρ hf (by rw[hρ];rfl) ⟨b0,by rw[hρ];exact decide_eq_false h4,by rw[hρ];exact decide_eq_false h5,by rw[hρ];exact decide_eq_true h6,trivial⟩ mm (by rw[hρ];rfl) (by rw[hρ];rfl) nR nL Sd M1.r hL' (LU.trans fw) gR gL0 fun _ _=>by rw[hρ];rfl
  rw[if_neg h6];exact amf.Jl iX ρ hf (by rw[hρ];rfl) ⟨b0,by rw[hρ];exact decide_eq_false h4,by rw[hρ];exact decide_eq_false h5,by rw[hρ];exact decide_eq_false h6,trivial⟩ mm (by rw[hρ];rfl) (by rw[hρ];rfl) nR nL Sd M1.r hL' (LU.trans fw) gR gL0 fun _ _=>by rw[hρ];rfl
 |q+1,i,acc,w,fr,hi,fw,hL,hf=>by
  have hlt:i<vs.length:=by omega
  obtain⟨j,e,hj,he⟩:=both hl (i:=i) hlt;have Sd:R≠L:=by have:=cy.jR M.r;omega
  obtain⟨ρ,hρ⟩:∃ρ:Env,ρ=Sl m js.length c' i j op n e e X Y R K O L s es:=⟨_,rfl⟩;have bb:=bX (ρ:=ρ) (i:=15) (n:=81) (I:=i) (N:=js.length) (by rw[hρ];rfl) (by rw[hρ];rfl) (by omega);refine(al'.go ρ hf (by rw[hρ];rfl) bb trivial).trans fun g1 w1' hd=>?_;obtain⟨I,B,bR,rfl,f1,F1,_⟩:=hd;rw[hρ]at F1;have M1:=M.keep (fw.trans f1);refine(Sk (ρ:=ρ) (e:=e) (P:=L) (by rw[hρ];rfl) (by rw[hρ];rfl) (by rw[hρ];rfl) (bP hL f1) (fun w' f=>by rw[hρ];exact hk i j e hj he w' ((fw.trans f1).trans f)) bb (cq.app (l:=Es) (by rw[hρ];exact⟨M1.k i j hj,trivial⟩) (M1.Y6 (by rw[hρ];rfl) (by rw[hρ];rfl) (by rw[hρ];rfl) (by rw[hρ];rfl) (by rw[hρ];rfl))) (by rw[hρ];rfl) F1).trans fun g2 w2 b_=>?_;obtain⟨cE,rfl,MI,hL2,F2⟩:=b_;rw[hρ]at F2;have f12:bA w1 w2:=cw (fw.trans f1) (MI.mono fun y hy=>by
   rcases hy with h|h
   ·exact ax (fw.trans f1).size h
   ·rw[h];exact gL)
  have mm:cq ρ w2 PC:=by rw[hρ];exact⟨bG hL2 (i:=0) rfl,bG hL2 (i:=1) rfl,trivial⟩
  have dS:vs.drop i=e::vs.drop (i+1):=by rw[aG hlt];congr 1;exact au ((aa hlt).symm.trans he)
  rw[dS];unfold rC;by_cases h1:e.1=1
  ·rw[if_pos h1];refine(amb.go ρ F2 (by rw[hρ];rfl) ⟨by rw[hρ];show(!decide (e.1=1))=false;rw[decide_eq_true h1];rfl,trivial⟩ mm).trans fun g3 w3 cv=>?_;obtain⟨I,B,cF,rfl,f3,F3,_⟩:=cv;rw[hρ]at F3;refine EM (c':=c') M LU gR hO LV gL hl hbig hk q (i+1) (by omega) (f12.trans f3) (by rw[<-h1];exact bP hL2 f3) ?_;rw[<-inc (i:=i) (by omega)];exact F3
  ·rw[if_neg h1];exact ama.BZ iX ρ F2 (by rw[hρ];rfl) ⟨by rw[hρ];show(!decide (e.1=1))=true;rw[decide_eq_false h1];rfl,trivial⟩ mm (by rw[hρ];rfl) ⟨by rw[hρ];exact Sd,by rw[hρ];exact Sd,trivial⟩ (M.keep f12).r (LU.trans f12) gR fun _ _=>by rw[hρ];rfl
def B6(t:T):Prop:=∀{w:World} {s es:Value} {tree:List Nd} {E:List (Int×Int)} {m:cV} {cj:Nat} {rest:List Nd},cK w s tree->tree.length≤1000000->ei w es E->vk t->LR t->nv E.length t->tree.drop cj=flat t++rest->dV 61 #[s,iV cj,dx m,es] w fun v w'=>bA w w'∧v=dY (qB E m t)
theorem PZ{n:Nd}{ks:List T}(ih:∀k∈ks,B6 k):B6 (.nd n ks):=by
 intro w s es tree E m cj rest h hl hE hw hok hn hd;have hx:tree[cj]?=some n:=kQ hd;have Pe:=(ak.1 hx).1;have oV:tree.drop (cj+1)=bY ks++rest:=by
  have:tree.drop cj=n::(bY ks++rest):=by rw[hd];simp[flat]
  exact(dM this).2.1
 have W8:=f_ ks;have akE:(bY ks).length≤1000000:=by have:=congrArg aR oV;rw[an,br]at this;omega
 obtain⟨nE,nK,n3,nL⟩:=hn;rcases h.ex with⟨_,e⟩|⟨A,o,c,hs,hc,hel⟩
 ·rw[e]at hx;cases hx
 have iK:=hel cj n hx;refine Goes.iY fun cs=>?_;obtain⟨ρ,hρ⟩:∃ρ:Env,ρ=bO [(51,tree.length),(52,c),(53,o),(10,cj),(1,n.op),(2,n.n),(3,n.kids),(4,n.cj),(31,m.mul),(32,m.add),(33,m.cJ),(34,m.panics)] [(50,A)] [(3,es)]:=⟨_,rfl⟩;refine(alF.go ρ (xW Yc rfl s (iV cj) (dx m) es) (by rw[hs,hρ];rfl) (bX (i:=10) (n:=51) (I:=cj) (N:=tree.length) (by rw[hρ];rfl) (by rw[hρ];rfl) Pe) ⟨by rw[hρ];exact iK.c0,by rw[hρ];exact iK.c1,by rw[hρ];exact iK.c2,by rw[hρ];exact iK.c3,trivial⟩).trans fun g1 w1 Pf=>?_;obtain⟨I,B,bR,rfl,f1,F1,bl,inj⟩:=Pf;rw[hρ]at F1 bl inj;obtain⟨X,eX⟩:∃X,B 102=X:=⟨_,rfl⟩;obtain⟨R,eR⟩:∃R,B 101=R:=⟨_,rfl⟩;obtain⟨Y,eY⟩:∃Y,B 100=Y:=⟨_,rfl⟩;have hX:(cy.obj 77 [cY n.op,iV n.n,iV n.kids,iV n.cj]).at Tryz.prog w1 X:=by rw[<-eX];exact bl.1.2
 have hR:(cy.obj 43 [cY 0,iV 0]).at Tryz.prog w1 R:=by rw[<-eR];exact bl.2.1.2
 have hY:(cy.obj 27 [iV m.mul,iV m.add,iV m.cJ,iV m.panics]).at Tryz.prog w1 Y:=by rw[<-eY];exact bl.2.2.1.2
 have gR:w.heap.size≤R:=by rw[<-eR];exact bl.2.1.1
 have ZX:R≠X:=fun e=>by have:=inj _ (af _ (aj ..)) _ (aj ..) (by rw[<-eR,<-eX]at e;exact e);cases this
 have hRY:R≠Y:=fun e=>by have:=inj _ (af _ (aj ..)) _ (af _ (af _ (aj ..))) (by rw[<-eR,<-eY]at e;exact e);cases this
 have fN:FA 61 167 (.inRegion (opsOf (cR 14)) [2,3]::[.code (cR 15)]) [] .normal [(0,s),(3,es),(6,bK Y),(8,bK R),(9,bK X),(20,s),(21,iV cj)] bR:=by rw[<-eX,<-eR,<-eY,hs];exact F1
 refine(alG.go (bO [] [] [(20,s),(21,iV cj)]) (Q:=fun v w'=>∃w1,bA w1 w'∧c7 w' w1.heap.size v ((fX (cj+1) ks).map Int.ofNat)) fN rfl fun w' f=>(qF (h.keep (f1.trans f)) hl hw hd).mono fun v w2 hd=>⟨hd.1,w',hd.1,hd.2⟩).trans fun g2 w2 b_=>?_;obtain⟨cE,sk,rfl,f2,⟨wk,fk,hsk⟩,F2⟩:=b_;have jT:=f1.trans f2;have I8:=f2.cell (bG hX (i:=0) rfl);have LS:=f2.cell (bG hX (i:=1) rfl);have hR2:=bP hR f2;have lY:FA 61 167 (.inRegion (opsOf (cR 14)) [3]::[.code (cR 15)]) [] .normal [(0,s),(3,es),(6,bK Y),(8,bK R),(9,bK X),(22,sk)] cE:=F2.only rfl;have no:∀{a b:Int},a≠b->decide (a=b)=false:=fun h=>decide_eq_false h;obtain⟨σ,cr⟩:∃σ:Env,σ=bO [(1,n.op),(2,n.n)] [(65,Y),(68,R),(64,X)] [(0,s),(3,es),(22,sk)]:=⟨_,rfl⟩;have mX:cq σ w2 Je:=by rw[cr];exact⟨I8,LS,trivial⟩
 by_cases h1:n.op=1
 ·refine alH.BZ iX σ lY (by rw[cr];rfl) ⟨by rw[cr];exact decide_eq_true h1,trivial⟩ mX (by rw[cr];rfl) ⟨by rw[cr];exact ZX,by rw[cr];exact ZX,trivial⟩ hR2 jT gR fun _ _=>?_;rw[cr];unfold qB qZ;rw[if_pos h1];rfl
 by_cases h2:n.op=2
 ·obtain⟨hn0,HB⟩:=nE h2;obtain⟨z,A',o',c',he,hz,oU,jL⟩:=(hE.keep jT).ex;cases z with
  |true=>rw[hz rfl]at HB;simp only[aX]at HB;omega
  |false=>
   obtain⟨N,hN⟩:∃N:Nat,n.n=N:=⟨n.n.toNat,by omega⟩;have DD:N<E.length:=by omega
   obtain⟨e,hee⟩:∃e,E[N]?=some e:=⟨_,aa DD⟩;obtain⟨ec,ec'⟩:=jL N e hee;have au3:A'<w.heap.size:=by
    obtain⟨z,A2,o2,c2,Up,JQ,au4,amm⟩:=hE.ex;cases z with
    |true=>rw[JQ rfl]at DD;simp at DD
    |false=>have:A2=A':=lZ (Up.symm.trans he);rw[<-this];exact j5 (amm N e hee).1
   have hRA:R≠A':=by omega
   obtain⟨τ,fS⟩:∃τ:Env,τ=bO [(1,n.op),(2,N),(15,e.1),(16,e.2),(71,E.length),(72,c'),(73,o')] [(65,Y),(68,R),(64,X),(70,A')] [(0,s),(22,sk)]:=⟨_,rfl⟩;refine alI.BZ iX τ lY (by rw[fS,he];rfl) ⟨by rw[fS];exact no h1,by rw[fS];exact decide_eq_true h2,bX (i:=2) (n:=71) (I:=N) (N:=E.length) (by rw[fS];rfl) (by rw[fS];rfl) DD⟩ ⟨by rw[fS];exact I8,by rw[fS];rw[hN]at LS;exact LS,by rw[fS];exact ec,by rw[fS];exact ec',trivial⟩ (by rw[fS];rfl) ⟨by rw[fS];exact ZX,by rw[fS];exact ZX,by rw[fS];exact hRA,by rw[fS];exact hRA,trivial⟩ hR2 jT gR fun _ _=>?_;rw[fS];unfold qB qZ;rw[if_neg h1,if_pos h2,hN,show((N:Int)).toNat=N by omega,bn,hee];rfl
 have hks:ks≠[]:=nK h1 h2;have hvs:sC E m ks≠[]:=fun h=>hks (by have:=lP E m ks;rw[h]at this;exact bg.1 this.symm)
 rcases hsk with⟨rfl,oE⟩|⟨hne,K,c',rfl,hK,hv⟩
 ·have:=congrArg aR oE;rw[aD,fV]at this;exact(hks (bg.1 this)).elim
 have hjl:(fX (cj+1) ks).length=(sC E m ks).length:=by rw[fV,lP]
 obtain⟨js,C4⟩:∃js,js=fX (cj+1) ks:=⟨_,rfl⟩;rw[<-C4]at hv hjl lY cr;rw[aD]at lY cr;have hbig:js.length≤1000000:=by rw[C4,fV];omega
 have M:Uo w2 m n.op n.n X Y R K c' js:=⟨I8,LS,bP hY f2,hR2,fun i j hj=>by rw[aF];refine cy.cS hv ?_;show((js.map Int.ofNat).map iV)[i]?=_;rw[aL,aL,hj];rfl,ZX,hRY⟩
 have hkE:∀{w3:World},bA w2 w3->PY w3 s es m js (sC E m ks):=fun{w3} f i j e hj he w' f'=>by
  have hi:i<ks.length:=by have:=(ak.1 he).1;rwa[lP]at this
  have VN:ks[i]?=some ks[i]:=aa hi;have hmem:ks[i]∈ks:=List.getElem_mem hi;obtain⟨rest',hr⟩:=mH oV (C4▸hj) VN;have fa:=jT.trans (f.trans f');have he':e=qB E m ks[i]:=by rw[wv,aL,VN]at he;exact(au he).symm
  rw[he'];exact ih ks[i] hmem (h.keep fa) hl (hE.keep fa) (o9.mem hw.2 _ hmem) (hok.kid _ hmem) (lf.mem nL _ hmem) hr
 by_cases h11:n.op=11
 ·refine(alJ.go σ lY (by rw[cr];rfl) ⟨by rw[cr];exact no h1,by rw[cr];exact no h2,by rw[cr];exact decide_eq_true h11,trivial⟩ mX).trans fun g3 w3 cv=>?_;obtain⟨I,B,cF,rfl,f3,F3,_⟩:=cv;rw[cr]at F3;have zB:qB E m (.nd n ks)=(((sC E m ks).drop 0).find? fun e=>decide (e.1=1)).getD ((sC E m ks).headD (0,0)):=by
   unfold qB qZ;rw[if_neg h1,if_neg h2,if_pos h11];rfl
  rw[zB];exact EL (c':=c') (M.keep f3) (jT.trans f3) gR hjl hbig hvs (hkE f3) (sC E m ks).length 0 (by omega) (bA.refl _) F3
 refine(alK.go σ lY (by rw[cr];rfl) ⟨by rw[cr];exact no h1,by rw[cr];exact no h2,by rw[cr];exact no h11,trivial⟩ mX).trans fun g3 w3 cv=>?_;obtain⟨I,B,cF,rfl,f3,F3,_⟩:=cv;rw[cr]at F3;have M3:=M.keep f3;obtain⟨j,e,hj,he⟩:=both hjl (i:=0) (bq.2 hvs);have hlen:0<js.length:=by have:=bq.2 hvs;omega
 have hhd:(sC E m ks).headD (0,0)=e:=by
  generalize sC E m ks=vs at he;cases vs with
  |nil=>cases he
  |cons a l=>exact au he
 obtain⟨τ,fS⟩:∃τ:Env,τ=Sl m js.length c' 0 j n.op n.n e (0,0) X Y R K 0 0 s es:=⟨_,rfl⟩;refine(Sg (ρ:=τ) (e:=e) (by rw[fS];rfl) (by rw[fS];rfl) (fun w' f=>by rw[fS];exact hkE f3 0 j e hj he w' f) (by rw[fS];exact⟨decide_eq_true (by show(0:Int)<((js.length:Nat):Int);omega),decide_eq_false (by show ¬((0:Int)≥((js.length:Nat):Int));omega),trivial⟩) (cq.app (l:=[(⟨(.dyn 80),(.plus (.tn (v 83)) (.lit 0))⟩,i64 (v 16)),(⟨(.dyn 80),(v 83)⟩,i64 (v 16))]) (by rw[fS];exact⟨M3.k 0 j hj,M3.k 0 j hj,trivial⟩) (M3.Y6 (by rw[fS];rfl) (by rw[fS];rfl) (by rw[fS];rfl) (by rw[fS];rfl) (by rw[fS];rfl))) (by rw[fS];rfl) F3).trans fun g4 w4 dh=>?_;obtain⟨eO,O,rfl,f4,gO,hO,F4⟩:=dh;rw[fS]at F4;have M4:=M3.keep f4;have o_:=jT.trans (f3.trans f4);have LV:R≠O:=by have:=cy.jR M3.r;omega
 have ev:qB E m (.nd n ks)=if e.1=1 then lF n.op e.2 m (sC E m ks)else e:=by unfold qB qZ;rw[if_neg h1,if_neg h2,if_neg h11,hhd]
 rw[ev];obtain⟨κ,lH⟩:∃κ:Env,κ=Sl m js.length c' 0 j n.op n.n e (0,0) X Y R K O 0 s es:=⟨_,rfl⟩;have mO:cq κ w4 [(eD 67 0,i8 (v 21)),(eD 67 1,i64 (v 22))]:=by rw[lH];exact⟨bG hO (i:=0) rfl,bG hO (i:=1) rfl,trivial⟩
 by_cases Y7:e.1=1
 ·rw[if_pos Y7];have Uq:(BE.cmp .neq (v 21) (.lit 1)).ev κ=false:=by rw[lH];show(!decide (e.1=1))=false;rw[decide_eq_true Y7];rfl
  have Ur:cq κ w4 uf:=⟨mO.1,mO.2.1,by rw[lH];exact M4.x0,trivial⟩;have nOX:rB κ R uf:=by rw[lH];exact⟨LV,LV,ZX,trivial⟩
  have Sm:κ.b 68=R:=by rw[lH];rfl
  unfold lF;by_cases ZY:n.op=12
  ·rw[if_pos ZY];have h3:=n3 ZY;have hl3:(sC E m ks).length=3:=by rw[lP];exact h3
   have pick:∀{w5:World} {gn:Frame} {k:List Item} {i:Nat},i<3->bA w4 w5->(∀{j:Nat} {e2:Int×Int},js[i]?=some j->(sC E m ks)[i]?=some e2->Goes (G gn cs) w5 (Out 61 cs w fun v _=>v=dY e2))->Goes (G gn cs) w5 (Out 61 cs w fun v _=>v=dY ((sC E m ks).getD i (0,0))):=fun{w5 gn k i} hi f5 go=>by obtain⟨j,e2,hj2,Up⟩:=both hjl (i:=i) (by omega);rw[bn,Up];exact go hj2 Up
   by_cases hx0:e.2=0
   ·rw[if_neg (fun h=>h hx0)];refine(alS.go κ F4 (by rw[lH];rfl) ⟨Uq,by rw[lH];exact decide_eq_true ZY,by rw[lH];show(!decide (e.2=0))=false;rw[decide_eq_true hx0];rfl,trivial⟩ Ur).trans fun g5 w5 eg=>?_;obtain⟨I,B,gn,rfl,f5,F5,_⟩:=eg;rw[lH]at F5;refine pick (k:=[]) (i:=2) (by decide) f5 fun{j2 e2} hj2 Up=>?_;obtain⟨π,oP⟩:∃π:Env,π=Sl m js.length c' 0 j2 n.op n.n e2 (0,0) X Y R K O 0 s es:=⟨_,rfl⟩;have M5:=M4.keep f5;refine(Sj (ρ:=π) (e:=e2) (P:=R) (by rw[oP];rfl) (by rw[oP];rfl) (by rw[oP];rfl) M5.r (fun w' f=>by rw[oP];exact hkE (f3.trans (f4.trans f5)) 2 j2 e2 hj2 Up w' f) (by rw[oP];exact⟨decide_eq_true (by show(2:Int)<((js.length:Nat):Int);omega),decide_eq_false (by show ¬((2:Int)≥((js.length:Nat):Int));omega),trivial⟩) (cq.app (l:=[(⟨(.dyn 80),(.plus (.tn (v 83)) (.lit 2))⟩,i64 (v 16))]) (by rw[oP];exact⟨M5.k 2 j2 hj2,trivial⟩) (M5.Y6 (by rw[oP];rfl) (by rw[oP];rfl) (by rw[oP];rfl) (by rw[oP];rfl) (by rw[oP];rfl))) (by rw[oP];rfl) F5).trans fun g6 w6 dz=>?_;obtain⟨dK,rfl,kp6,hR6,F6⟩:=dz;rw[oP]at F6;refine(alU.go π F6 (by rw[oP];rfl) trivial trivial).trans fun g7 w7 mW=>?_;obtain⟨I,B,qX,rfl,f7,F7,_⟩:=mW;rw[oP]at F7;have uk:=o_.trans f5;exact qh iX F7 rfl (bP hR6 f7) ((cw uk (kp6.mono fun x hx=>by
     rcases hx with h|h
     ·exact ax uk.size h
     ·rw[h];exact gR)).trans f7) rfl
   ·rw[if_pos hx0];refine(alR.go κ F4 (by rw[lH];rfl) ⟨Uq,by rw[lH];exact decide_eq_true ZY,by rw[lH];show(!decide (e.2=0))=true;rw[decide_eq_false hx0];rfl,trivial⟩ Ur).trans fun g5 w5 eg=>?_;obtain⟨I,B,gn,rfl,f5,F5,_⟩:=eg;rw[lH]at F5;refine pick (k:=[]) (i:=1) (by decide) f5 fun{j2 e2} hj2 Up=>?_;obtain⟨π,oP⟩:∃π:Env,π=Sl m js.length c' 0 j2 n.op n.n e2 (0,0) X Y R K O 0 s es:=⟨_,rfl⟩;have M5:=M4.keep f5;refine(Si (ρ:=π) (e:=e2) (P:=R) (by rw[oP];rfl) (by rw[oP];rfl) (by rw[oP];rfl) M5.r (fun w' f=>by rw[oP];exact hkE (f3.trans (f4.trans f5)) 1 j2 e2 hj2 Up w' f) (by rw[oP];exact⟨decide_eq_true (by show(1:Int)<((js.length:Nat):Int);omega),decide_eq_false (by show ¬((1:Int)≥((js.length:Nat):Int));omega),trivial⟩) (cq.app (l:=[(⟨(.dyn 80),(.plus (.tn (v 83)) (.lit 1))⟩,i64 (v 16))]) (by rw[oP];exact⟨M5.k 1 j2 hj2,trivial⟩) (M5.Y6 (by rw[oP];rfl) (by rw[oP];rfl) (by rw[oP];rfl) (by rw[oP];rfl) (by rw[oP];rfl))) (by rw[oP];rfl) F5).trans fun g6 w6 dz=>?_;obtain⟨dK,rfl,kp6,hR6,F6⟩:=dz;rw[oP]at F6;refine(alT.go π F6 (by rw[oP];rfl) trivial trivial).trans fun g7 w7 mW=>?_;obtain⟨I,B,qX,rfl,f7,F7,_⟩:=mW;rw[oP]at F7;have uk:=o_.trans f5;exact qh iX F7 rfl (bP hR6 f7) ((cw uk (kp6.mono fun x hx=>by
     rcases hx with h|h
     ·exact ax uk.size h
     ·rw[h];exact gR)).trans f7) rfl
  rw[if_neg ZY];have ZZ:(BE.cmp .eql (v 1) (.lit 12)).ev κ=false:=by rw[lH];exact no ZY
  by_cases c3:n.op=3
  ·rw[if_pos c3];exact alV.BZ iX κ F4 (by rw[lH];rfl) ⟨Uq,ZZ,by rw[lH];exact decide_eq_true c3,trivial⟩ Ur Sm nOX M4.r o_ gR fun _ _=>by rw[lH];rfl
  rw[if_neg c3];have n3':(BE.cmp .eql (v 1) (.lit 3)).ev κ=false:=by rw[lH];exact no c3
  by_cases c13:n.op=13
  ·rw[if_pos c13];exact alW.BZ iX κ F4 (by rw[lH];rfl) ⟨Uq,ZZ,n3',by rw[lH];exact decide_eq_true c13,trivial⟩ Ur Sm nOX M4.r o_ gR fun _ _=>by rw[lH];rfl
  rw[if_neg c13];have n13:(BE.cmp .eql (v 1) (.lit 13)).ev κ=false:=by rw[lH];exact no c13
  by_cases c14:n.op=14
  ·rw[if_pos c14];exact alX.BZ iX κ F4 (by rw[lH];rfl) ⟨Uq,ZZ,n3',n13,by rw[lH];exact decide_eq_true c14,trivial⟩ Ur Sm nOX M4.r o_ gR fun _ _=>by rw[lH];rfl
  rw[if_neg c14];have n14:(BE.cmp .eql (v 1) (.lit 14)).ev κ=false:=by rw[lH];exact no c14
  by_cases c15:n.op=15
  ·rw[if_pos c15];refine(alY.go κ F4 (by rw[lH];rfl) ⟨Uq,ZZ,n3',n13,n14,by rw[lH];exact decide_eq_true c15,trivial⟩ (cq.app Ur (M4.Y6 (by rw[lH];rfl) (by rw[lH];rfl) (by rw[lH];rfl) (by rw[lH];rfl) (by rw[lH];rfl)))).trans fun g5 w5 eg=>?_;obtain⟨I,B,gn,rfl,f5,F5,_⟩:=eg;rw[lH]at F5;refine(alZ.go (bO [] [] [(114,dx m),(116,iV e.2)]) (Q:=fun v w'=>v=dY (eU m e.2)) F5 rfl fun w' f=>Li).trans fun g6 w6 dz=>?_;obtain⟨dK,v6,rfl,f6,rfl,F6⟩:=dz;have BW:=o_.trans (f5.trans f6);refine(fQ (B:=R) (T:=43) (el:=43) (sz:=2) (V:=dY (eU m e.2)) (cs':=[cY (eU m e.2).1,iV (eU m e.2).2]) al0 (by kernel_rfl) rfl rfl EI F6 rfl rfl (M4.keep (f5.trans f6)).r rfl).trans fun g7 w7 mW=>?_;obtain⟨qX,rfl,⟨kp7,hR7⟩,F7⟩:=mW;refine(al4.go (bO [] [(68,R)] []) F7 rfl trivial trivial).trans fun g8 w8 BH=>?_;obtain⟨I,B,Np,rfl,f8,F8,_⟩:=BH;exact qh iX F8 rfl (bP hR7 f8) ((cw BW (kp7.mono fun x hx=>by rw[hx];exact gR)).trans f8) rfl
  rw[if_neg c15];have n15:(BE.cmp .eql (v 1) (.lit 15)).ev κ=false:=by rw[lH];exact no c15
  by_cases c16:n.op=16
  ·rw[if_pos c16];refine al7.BZ iX κ F4 (by rw[lH];rfl) ⟨Uq,ZZ,n3',n13,n14,n15,by rw[lH];exact decide_eq_true c16,trivial⟩ Ur Sm nOX M4.r o_ gR fun _ _=>?_;rw[lH];show Value.agg #[cY e.1,iV e.2]=_;rw[Y7];rfl
  rw[if_neg c16];refine(al_.go κ F4 (by rw[lH];rfl) ⟨Uq,ZZ,n3',n13,n14,n15,by rw[lH];exact no c16,trivial⟩ Ur).trans fun g5 w5 eg=>?_;obtain⟨I,B,gn,rfl,f5,F5,Oj,_⟩:=eg;rw[lH]at F5 Oj;have hLb:(cy.obj 43 [cY 1,iV e.2]).at Tryz.prog w5 (B 100):=by rw[<-Y7];exact Oj.1.2
  have hO':(cy.obj 43 [cY 1,iV e.2]).at Tryz.prog w4 O:=by rw[<-Y7];exact hO
  have hlast:rC n.op e.2 e.2 ((sC E m ks).drop 1)=oZ n.op e.2 e.2 ((sC E m ks).drop 1):=by
   by_cases c:n.op≠4∧n.op≠5∧n.op≠6
   ·exact vK c _ _
   ·have hop:bV n.op=2:=by
     rcases(by omega:n.op=4∨n.op=5∨n.op=6)with h|h|h<;>rw[h]<;>rfl
    have hk2:=(om (hok (.nd n ks) (by rw[kP];exact aj ..))).2 (by rw[show(T.nd n ks).n=n from rfl,hop];decide);have hk2:n.kids=bV n.op:=hk2;have hkk:n.kids=ks.length:=hw.1;have ZG:(sC E m ks).length=2:=by rw[lP];omega
    match hvv:sC E m ks,ZG with
    |[a,b],_=>exact Lj b _
  rw[<-hlast];exact EM (w1:=w4) (c':=c') M4 o_ gR hO' LV Oj.1.1 hjl hbig (hkE (f3.trans f4)) ((sC E m ks).length-1) 1 (by have:=bq.2 hvs;omega) f5 hLb F5
 ·rw[if_neg Y7];exact alQ.BZ iX κ F4 (by rw[lH];rfl) ⟨by rw[lH];show(!decide (e.1=1))=true;rw[decide_eq_false Y7];rfl,trivial⟩ mO (by rw[lH];rfl) ⟨by rw[lH];exact LV,by rw[lH];exact LV,trivial⟩ M4.r o_ gR fun _ _=>by rw[lH];rfl
end
mutual
theorem A_:∀t:T,B6 t
 |.nd n ks=>PZ (yV ks)
theorem yV:∀ks:List T,∀k∈ks,B6 k
 |[],k,h=>by cases h
 |k'::ks,k,h=>by
  rcases ai.1 h with e|h
  ·rw[e];exact A_ k'
  ·exact yV ks k h
end
theorem G9{w:World}{x:cx}{ts es:Value}{E:List (Int×Int)}{m:cV}{t:T}(h:cK w ts x.tree)(hl:x.tree.length≤1000000)(hE:ei w es E)(hw:vk t)(hok:LR t)(hn:nv E.length t)(hfl:x.tree=flat t):dV 40 #[fK x ts,dx m,es] w fun v w'=>bA w w'∧v=dY (qB E m t):=by refine Goes.iY fun cs=>?_;obtain⟨ρ,hρ⟩:∃ρ:Env,ρ=Go.Proofs.YtmobbajggkjpgaaGreat.SX.iS [(4,x.cj),(31,m.mul),(32,m.add),(33,m.cJ),(34,m.panics)] [] [(7,ts),(2,es)] [(1,x.name)]:=⟨_,rfl⟩;refine(amg.go ρ (p9 Yd rfl (fK x ts) (dx m) es) (by rw[hρ];rfl) trivial trivial).trans fun g1 w1 hd=>?_;obtain⟨I,B,bR,rfl,f1,F1,bl,_⟩:=hd;rw[hρ]at F1;have hR:(cy.obj 43 [cY 0,iV 0]).at Tryz.prog w1 (B 102):=bl.1.2;have gR:w.heap.size≤B 102:=bl.1.1;refine(amh.go (bO [] [] [(8,ts),(9,dx m),(10,es)]) (Q:=fun v w'=>v=dY (qB E m t)) F1 rfl fun w' f=>A_ t (cj:=0) (rest:=[]) (h.keep (f1.trans f)) hl (hE.keep (f1.trans f)) hw hok hn (by rw[List.drop_zero,aV];exact hfl)).trans fun g2 w2 b_=>?_;obtain⟨cE,v,rfl,f2,rfl,F2⟩:=b_;refine(fQ (B:=B 102) (T:=43) (el:=43) (sz:=2) (V:=dY (qB E m t)) (cs':=[cY (qB E m t).1,iV (qB E m t).2]) ami (by kernel_rfl) rfl rfl EI F2 rfl rfl (bP hR f2) rfl).trans fun g3 w3 cv=>?_;obtain⟨cF,rfl,⟨ZO,ZU⟩,F3⟩:=cv;refine(amj.go (bO [] [(68,B 102)] []) F3 rfl trivial trivial).trans fun g4 w4 dh=>?_;obtain⟨I4,B4,eO,rfl,f4,F4,_⟩:=dh;exact qh Y5 F4 rfl (bP ZU f4) ((cw (f1.trans f2) (ZO.mono fun x hx=>by rw[hx];exact gR)).trans f4) rfl
theorem Lk{x:cx}{t:T}(h:mJ x=some t):LR t:=by
 unfold mJ at h;cases e:dJ (x.tree.length+1) x.tree true with
 |none=>rw[e]at h;cases h
 |some p=>
  rw[e]at h;obtain⟨t',r⟩:=p;obtain rfl:t'=t:=au h;have hs:=mP _ _ _ _ _ e;refine wI _ 0 ?_;cases t' with
  |nd n ks=>rw[wH,aq];exact hs
theorem iu.at{w:World}{s:Value}{l:List Nd}(h:iu w s l)(hne:l≠[]):cK w s l:=by
 rcases h.ex with h|⟨e,_⟩
 ·exact h
 ·exact(hne e).elim
theorem amp:Pc 41 30 [.code (bD Tryz.f41)] (Ed) [] [] [] 13 [100] [1,3,6] [.inRegion (opsOf (vp 28)) [1,2],.code (vp 29),.code (vp 15)] [bC 100,cn,.agg [ss 1,sA 70 73 71 72,i64 (v 4)]] [(100,.cells [ss 1,sA 70 73 71 72,i64 (v 4)] 50)]:={}
theorem amq:dy 30 (opsOf (vp 28)) 1 [(6,.bF 6)] 36 [.bF 6] 7:={}
noncomputable abbrev Ut:List Item:=[.inRegion (opsOf (vp 28)) [2],.code (vp 29),.code (vp 15)]
theorem amr:Pc 41 30 Ut ([(1,bC 64),(3,cn),(7,i8 (v 1))]) [((.cmp .eql (v 1) (.lit 18)),true)] [] [] 7 [] [2] [.code .ret,.code (vp 15)] [cn] []:={}
noncomputable abbrev rE:List Item:=[.code (vp 244),.inLoop (vp 244),.inBlock 0,.code (vp 31)]
theorem ams:Pc 41 30 Ut ([(1,bC 64),(3,cn),(7,i8 (v 1))]) [((.cmp .eql (v 1) (.lit 18)),false)] [(eD 64 0,ss 1),(eD 64 1,sA 70 73 71 72),(eD 64 2,i64 (v 4))] [] 14 [] [3,10,11,12] rE [cn,sA 70 73 71 72,i64 (.tn (v 71)),i64 (.lit 0)] []:={}
noncomputable abbrev Y8:List (AA×AV):=[(eB 70 73 10 4,i8 (v 1)),(eA 70 73 10 4 1,i64 (v 2)),(eA 70 73 10 4 2,i64 (v 3)),(eA 70 73 10 4 3,i64 (v 4))]
noncomputable abbrev Uu:List (Nat×AV):=[(3,.bF 5),(10,sA 70 73 71 72),(11,i64 (.tn (v 71))),(12,i64 (v 10))]
theorem amt:Pc 41 30 rE (Uu) (fo 10 71++Pr) Y8 [] 30 [100] [3,10,11,12] rE [.bF 5,sA 70 73 71 72,i64 (.tn (v 71)),i64 (.op .add .i64 (v 10) (.lit 1))] Aq:={}
noncomputable abbrev Uv:List (Nat×AV):=[(3,cn),(10,sA 70 73 71 72),(11,i64 (.tn (v 71))),(12,i64 (v 10))]
theorem amu:Pc 41 30 rE (Uv) (fo 10 71++[((.cmp .eql (v 1) (.lit 2)),true)]) Y8 [] 37 [102] [3,10,11,12] rE [.slice (some (eD 102 0)) (.lit 1) (v 102),sA 70 73 71 72,i64 (.tn (v 71)),i64 (.op .add .i64 (v 10) (.lit 1))] [(102,.row [i64 (v 2)] 3 (v 102))]:={}
abbrev Uw:List (BE×Bool):=[((.cmp .eql (v 1) (.lit 2)),true),((.cmp .leq (.plus (.tn (v 8)) (.lit 1)) (.lit 1048576)),true)]
theorem amv:Pc 41 30 rE ([(3,.slice (some (eD 62 0)) (v 8) (v 57)),(10,sA 70 73 71 72),(11,i64 (.tn (v 71))),(12,i64 (v 10))]) (fo 10 71++Uw) Y8 [(62,.pre false 63 (v 8) [] [] [] 3 (v 57))] 37 [102] [3,10,11,12] rE [.slice (some (eD 102 0)) (.plus (.tn (v 8)) (.lit 1)) (v 102),sA 70 73 71 72,i64 (.tn (v 71)),i64 (.op .add .i64 (v 10) (.lit 1))] [(102,.pre false 63 (v 8) [] [] [i64 (v 2)] 3 (v 102))]:={}
theorem amw:Pc 41 30 rE (Uu) [((.cmp .lss (v 10) (.tn (v 71))),false)] [] [] 10 [] [3,25] [.inRegion (opsOf (vp 62)) [1],.code (vp 63)] [.bF 5,.bF 5] []:={}
theorem amx:Pc 41 30 rE (Uv) [((.cmp .lss (v 10) (.tn (v 71))),false)] [] [] 178 [] [2] [.code .ret] [cn] []:={}
theorem Ll:dy 30 (opsOf (vp 62)) 1 [(25,.bF 25)] 62 [.bF 25] 26:={}
theorem amy:Pc 41 30 [.inRegion (opsOf (vp 62)) [],.code (vp 63)] ([(3,.bF 3)]) [] [] [] 4 [] [3,27] [.inRegion (opsOf (vp 126)) [1,2,3],.code .ret] [.bF 3,.bF 3] []:={}
theorem Lm:dy 30 (opsOf (vp 126)) 1 [(27,.bF 27)] 64 [.bF 27] 28:={}
theorem amz:dy 30 (opsOf (vp 126)) 2 [(28,.bF 28)] 63 [.bF 28] 29:={}
theorem amA:Pc 41 30 [.inRegion (opsOf (vp 126)) [3],.code .ret] ([(29,.bF 29)]) [] [] [] 2 [] [2] [.code .ret] [.bF 29] []:={}
end Go.Proofs.YtmobbajggkjpgaaGreat
namespace Go.Proofs.YtmobbajggkjpgaaGreat
open Go.Proofs.YtmobbajggkjpgaaGreat.SX Go.Conc Go.Proofs Go.Shelf Go.Sort
open _root_.List renaming getElem?_eq_getElem->aa,mem_singleton->ah,mem_cons->ai,getElem?_eq_some_iff->ak,length_append->an,not_mem_nil->aA,length_map->aD,getElem?_append_left->aK,getElem?_map->aL,mem_filter->aO,length_range->aP,length->aR,mem_map->bf,length_eq_zero_iff->bg,length_singleton->bp,map_append->bu
open _root_.Option.some renaming inj->au
open _root_.Nat renaming le_trans->ax,le_refl->ay,zero_add->aF
open _root_.Array renaming getElem?_toList->aY
def Tryz.EN:Go.Shelf.Ren:=⟨fun|189=>62|125=>85|257=>84|128=>101|129=>102|294=>92|295=>93|296=>94|297=>95|298=>96|299=>97|216=>98|300=>99|301=>100|328=>104|329=>105|330=>106|331=>107|332=>108|215=>109|343=>110|n=>n,fun|28=>23|3=>3|46=>124|0=>0|51=>140|53=>142|4=>4|183=>133|182=>132|131=>81|5=>5|9=>9|218=>144|222=>148|228=>150|229=>108|n=>n,fun|n=>n⟩
theorem Tryz.Sn:Go.Proofs.Lays.n189 Tryz.prog Tryz.EN:={
 mixed:=by kernel_rfl,
 f125:=Tryz.func85.trans (congrArg some (by kernel_rfl)),
 f128:=Tryz.func101.trans (congrArg some (by kernel_rfl)),
 f129:=Tryz.func102.trans (congrArg some (by kernel_rfl)),
 f189:=Tryz.func62.trans (congrArg some (by kernel_rfl)),
 f215:=Tryz.func109.trans (congrArg some (by kernel_rfl)),
 f216:=Tryz.func98.trans (congrArg some (by kernel_rfl)),
 f257:=Tryz.func84.trans (congrArg some (by kernel_rfl)),
 f294:=Tryz.func92.trans (congrArg some (by kernel_rfl)),
 f295:=Tryz.func93.trans (congrArg some (by kernel_rfl)),
 f296:=Tryz.func94.trans (congrArg some (by kernel_rfl)),
 f297:=Tryz.func95.trans (congrArg some (by kernel_rfl)),
 f298:=Tryz.func96.trans (congrArg some (by kernel_rfl)),
 f299:=Tryz.func97.trans (congrArg some (by kernel_rfl)),
 f300:=Tryz.func99.trans (congrArg some (by kernel_rfl)),
 f301:=Tryz.func100.trans (congrArg some (by kernel_rfl)),
 f328:=Tryz.func104.trans (congrArg some (by kernel_rfl)),
 f329:=Tryz.func105.trans (congrArg some (by kernel_rfl)),
 f330:=Tryz.func106.trans (congrArg some (by kernel_rfl)),
 f331:=Tryz.func107.trans (congrArg some (by kernel_rfl)),
 f332:=Tryz.func108.trans (congrArg some (by kernel_rfl)),
 f343:=Tryz.func110.trans (congrArg some (by kernel_rfl)),
 t0:=Tryz.underlying0,
 a0:=Tryz.isAgg0,
 z0:=Tryz.sizeOf0,
 v0:=Tryz.zeroValue0,
 t3:=Tryz.underlying3,
 a3:=Tryz.isAgg3,
 z3:=Tryz.sizeOf3,
 v3:=Tryz.zeroValue3,
 t4:=Tryz.underlying4,
 a4:=Tryz.isAgg4,
 z4:=Tryz.sizeOf4,
 v4:=Tryz.zeroValue4,
 t5:=Tryz.underlying5,
 a5:=Tryz.isAgg5,
 z5:=Tryz.sizeOf5,
 v5:=Tryz.zeroValue5,
 t9:=Tryz.underlying9,
 a9:=Tryz.isAgg9,
 z9:=Tryz.sizeOf9,
 v9:=Tryz.zeroValue9,
 t28:=Tryz.underlying23,
 a28:=Tryz.isAgg23,
 z28:=Tryz.sizeOf23,
 v28:=Tryz.zeroValue23,
 t46:=Tryz.underlying124,
 a46:=Tryz.isAgg124,
 z46:=Tryz.sizeOf124,
 v46:=Tryz.zeroValue124,
 t51:=Tryz.underlying140,
 a51:=Tryz.isAgg140,
 z51:=Tryz.sizeOf140,
 v51:=Tryz.zeroValue140,
 t53:=Tryz.underlying142,
 a53:=Tryz.isAgg142,
 z53:=Tryz.sizeOf142,
 v53:=Tryz.zeroValue142,
 t131:=Tryz.underlying81,
 a131:=Tryz.isAgg81,
 z131:=Tryz.sizeOf81,
 v131:=Tryz.zeroValue81,
 t182:=Tryz.underlying132,
 a182:=Tryz.isAgg132,
 z182:=Tryz.sizeOf132,
 v182:=Tryz.zeroValue132,
 t183:=Tryz.underlying133,
 a183:=Tryz.isAgg133,
 z183:=Tryz.sizeOf133,
 v183:=Tryz.zeroValue133,
 t218:=Tryz.underlying144,
 a218:=Tryz.isAgg144,
 z218:=Tryz.sizeOf144,
 v218:=Tryz.zeroValue144,
 t222:=Tryz.underlying148,
 a222:=Tryz.isAgg148,
 z222:=Tryz.sizeOf148,
 v222:=Tryz.zeroValue148,
 t228:=Tryz.underlying150,
 a228:=Tryz.isAgg150,
 z228:=Tryz.sizeOf150,
 v228:=Tryz.zeroValue150,
 t229:=Tryz.underlying108,
 a229:=Tryz.isAgg108,
 z229:=Tryz.sizeOf108,
 v229:=Tryz.zeroValue108}
def Tryz.yW:Go.Shelf.Ren:=⟨fun|20=>64|n=>n,fun|22=>23|3=>3|4=>4|0=>0|n=>n,fun|n=>n⟩
theorem Tryz.G_:Go.Proofs.Lays2.n20 Tryz.prog Tryz.yW:={
 mixed:=by kernel_rfl,
 f20:=Tryz.func64.trans (congrArg some (by kernel_rfl)),
 t0:=Tryz.underlying0,
 a0:=Tryz.isAgg0,
 z0:=Tryz.sizeOf0,
 v0:=Tryz.zeroValue0,
 t3:=Tryz.underlying3,
 a3:=Tryz.isAgg3,
 z3:=Tryz.sizeOf3,
 v3:=Tryz.zeroValue3,
 t4:=Tryz.underlying4,
 a4:=Tryz.isAgg4,
 z4:=Tryz.sizeOf4,
 v4:=Tryz.zeroValue4,
 t22:=Tryz.underlying23,
 a22:=Tryz.isAgg23,
 z22:=Tryz.sizeOf23,
 v22:=Tryz.zeroValue23,
 i3:=by kernel_rfl}
section
variable {w:World}
theorem Ba{blk off n:Nat}{d:Array Int}{os:Array Obj}:bU (fun b=>w.heap.size≤b∨b=blk) w (grow (putRow (Value.int .i64) (Sort.ahead w n) blk off d) os):=by
 have hs:(putRow (Value.int .i64) (Sort.ahead w n) blk off d).heap.size=w.heap.size:=Sort.size_putRow _ _ _ _ _;refine⟨fun m hm=>?_,?_,rfl,rfl,rfl⟩
 ·have h1:m<w.heap.size:=by
   have:¬w.heap.size≤m:=fun h=>hm (.inl h);omega
  have h2:m≠blk:=fun h=>hm (.inr h);rw[heap_grow_old _ _ (by rw[hs];exact h1)];show(w.heap.modify blk _)[m]?=w.heap[m]?;rw[Array.getElem?_modify,if_neg fun h=>h2 h.symm]
 ·show w.heap.size≤(_++os).size;rw[Array.size_append,hs];omega
theorem Ln{B c:Nat}{l:List Int}(h:(cy.vec 3 c (l.map iV)).at Tryz.prog w B):Holds (Value.int .i64) w B 0 l.toArray:=by
 obtain⟨arr,rest,inf,e1,e2,e3,e4⟩:=h;intro j hj;have hj:j<l.length:=by simpa using hj
 refine⟨?_,gv e1⟩;rw[iN e1,<-aY,e3,aF,aK (by simpa using hj),aL,aa hj];simp[iV,hj]
theorem Holds.at{B:Nat}{l:List Int}(h:Holds (Value.int .i64) w B 0 l.toArray){i:Nat}{n:Int}(hi:l[i]?=some n):w.cell? ⟨B,i,none⟩=some (iV n):=by have hlt:=(ak.1 hi).1;have h1:=(h i (by simpa using hlt)).1;rw[aF]at h1;rw[h1];obtain⟨_,e⟩:=ak.1 hi;simp[iV,hlt,e]
theorem vL{blk off n:Nat}{d0 d:Array Int}{os:Array Obj}(hH:Holds (Value.int .i64) w blk off d0)(hs:d.size=d0.size)(hb:blk<w.heap.size):Holds (Value.int .i64) (grow (putRow (Value.int .i64) (Sort.ahead w n) blk off d) os) blk off d:=by have h1:Holds (Value.int .i64) (putRow (Value.int .i64) (Sort.ahead w n) blk off d) blk off d:=Sort.holds_putRow _ _ _ _ d0 d hH hs;have hsz:(putRow (Value.int .i64) (Sort.ahead w n) blk off d).heap.size=w.heap.size:=Sort.size_putRow _ _ _ _ _;intro j hj;obtain⟨h2,h3⟩:=h1 j hj;refine⟨(cell?_grow _ _ _ (by rw[hsz];exact hb)).trans h2,?_⟩;rw[<-h3];unfold World.frozen?;rw[heap_grow_old _ _ (by rw[hsz];exact hb)]
def B7(l:List Int):List Int:=l.mergeSort fun x y=>decide (x≤y)
theorem B8(l:List Int):(B7 l).length=l.length:=List.length_mergeSort l
theorem P0{B c:Nat}{l:List Int}(h:(cy.vec 3 c (l.map iV)).at Tryz.prog w B)(hl:l.length<4611686018427387904):dV 62 #[bS B 0 l.length c] w fun v w'=>bU (fun b=>w.heap.size≤b∨b=B) w w'∧Holds (Value.int .i64) w' B 0 (B7 l).toArray:=by have hH:=Ln h;have hb:=cy.jR h;have hC:Calls Tryz.prog 62 #[.slice (some ⟨B,0,none⟩) l.length c] w fun e w'=>e=.returned (.tuple #[])∧∃n os,w'=grow (putRow (Value.int .i64) (Sort.ahead w n) B 0 (l.mergeSort fun x y=>decide (x≤y)).toArray) os:=Any.slices_Sort_int Tryz.Sn B 0 c l w hH hb hl;refine hC.mono fun e w' hd=>?_;obtain⟨rfl,n,os,rfl⟩:=hd;exact⟨_,rfl,Ba,vL hH (by simp) hb⟩
theorem B9{B c:Nat}{l:List Int}(hH:Holds (Value.int .i64) w B 0 l.toArray)(hb:B<w.heap.size)(hl:l.length≤1000000)(hc:l.length≤c):dV 64 #[bS B 0 l.length c] w fun v w'=>bU (fun b=>w.heap.size≤b∨b=B) w w'∧v=bS B 0 (Lib.compact l).length c∧∀i n,(Lib.compact l)[i]?=some n->w'.cell? ⟨B,i,none⟩=some (iV n):=by
 have hC:Calls Tryz.prog 64 #[.slice (some ⟨B,0,none⟩) l.length c] w fun e w'=>e=.returned (.slice (some ⟨B,0,none⟩) (Lib.compact l).length c)∧∃q,w'=putRow (Value.int .i64) (Sort.ahead w q) B 0 (Lib.compact l++List.replicate (l.length-(Lib.compact l).length) 0).toArray:=Any.slices_Compact_int Tryz.G_ B 0 c l w hH (by omega) hc;have hlen:(Lib.compact l).length≤l.length:=by unfold Lib.compact Lib.compactUpTo;rw[aD];refine ax (List.length_filter_le _ _) ?_;rw[aP];exact ay _
 refine hC.mono fun e w' hd=>?_;obtain⟨rfl,q,rfl⟩:=hd;have e0:∀w1:World,grow w1 #[]=w1:=fun w1=>by unfold grow;simp
 have k:=Ba (w:=w) (blk:=B) (off:=0) (n:=q) (d:=(Lib.compact l++List.replicate (l.length-(Lib.compact l).length) 0).toArray) (os:=#[]);have g:=vL (w:=w) (blk:=B) (off:=0) (n:=q) (d0:=l.toArray) (d:=(Lib.compact l++List.replicate (l.length-(Lib.compact l).length) 0).toArray) (os:=#[]) hH (by simp;omega) hb;rw[e0]at k g;refine⟨_,rfl,k,rfl,fun i n hi=>Holds.at g ?_⟩;rw[aK (ak.1 hi).1];exact hi
end
theorem Sq{l:List Int}{a:Int}:a∈B7 l↔a∈l:=List.mem_mergeSort
theorem EO{l:List Int}{a:Int}:a∈Lib.compact l↔a∈l:=by
 unfold Lib.compact Lib.compactUpTo;constructor
 ·intro h;obtain⟨j,hj,rfl⟩:=bf.1 h;have hj:=List.mem_range.1 (aO.1 hj).1;rw[getElem!_pos _ j (by simpa using hj)];simp
 ·intro h;obtain⟨i,hi⟩:=List.getElem?_of_mem h;have ex:∃i,l[i]?=some a:=⟨i,hi⟩;have key:∀n:Nat,∀i:Nat,i≤n->l[i]?=some a->∃j,l[j]?=some a∧(j=0∨l[j-1]?≠some a):=by
   intro n
   induction n with
   |zero=>intro i hi he;exact⟨i,he,.inl (by omega)⟩
   |succ n ih=>
    intro i hi he;by_cases h0:i=0∨l[i-1]?≠some a
    ·exact⟨i,he,h0⟩
    ·have h1:l[i-1]?=some a:=by
      by_cases h2:l[i-1]?=some a
      ·exact h2
      ·exact(h0 (.inr h2)).elim
     have h2:i≠0:=fun h=>h0 (.inl h);exact ih (i-1) (by omega) h1
  obtain⟨j,h1,h2⟩:=key i i (ay _) hi;obtain⟨hj,e⟩:=ak.1 h1;refine bf.2 ⟨j,aO.2 ⟨List.mem_range.2 hj,?_⟩,?_⟩
  ·unfold Lib.keeps;rcases h2 with h2|h2
   ·simp[h2]
   ·refine decide_eq_true (.inr fun h=>h2 ?_);rw[getElem!_pos _ j (by simpa using hj),getElem!_pos _ (j-1) (by simp;omega)]at h;rw[aa (by omega)];simp only[List.getElem_toArray]at h;rw[<-h,e]
  ·rw[getElem!_pos _ j (by simpa using hj)];simpa using e
def cT(l:List Nd):List Int:=(l.filter fun n=>decide (n.op=2)).map (·.n)
def mS(x:cx):List Int:=if cQ x=18 then[]else Lib.compact (B7 (cT x.tree))
theorem qi(l:List Int):(Lib.compact l).length≤l.length:=by unfold Lib.compact Lib.compactUpTo;rw[aD];refine ax (List.length_filter_le _ _) ?_;rw[aP];exact ay _
theorem ox(l:List Nd):(cT l).length≤l.length:=by unfold cT;rw[aD];exact List.length_filter_le _ _
theorem Lq(x:cx):(mS x).length≤x.tree.length:=by
 unfold mS;split
 ·exact Nat.zero_le _
 ·exact ax (qi _) (by rw[B8];exact ox _)
noncomputable abbrev NaH:List Item:=rE
theorem P4{w:World}{B c:Nat}{l:List Int}(h:(cy.vec 3 c (l.map iV)).at Tryz.prog w B):l.length≤c:=by obtain⟨arr,rest,inf,e1,e2,e3,e4⟩:=h;have:=congrArg aR e3;rw[yb inf e2]at e4;rw[an,aD]at this;have:arr.size=arr.toList.length:=rfl;omega
section
variable {w w0:World}{cs:List Frame}{fr:Frame}
theorem Sr{base A o L c i:Nat}{s:Value}{l:List Int}{nd:Nd}(hb:base≤w.heap.size)(hA:A<base)(hs:c7 w base s l)(hl:l.length≤1000000)(hN:iI w A (o+i*4) nd)(h2:nd.op=2)(hi:i<L)(hf:FA 41 30 NaH [] .normal [(3,s),(10,bS A o L c),(11,iV L),(12,iV i)] fr):
  Goes (G fr cs) w fun g' w'=>∃fr' s',g'=G fr' cs∧bU (fun x=>base≤x) w w'∧c7 w' base s' (l++[nd.n])∧FA 41 30 NaH [] .normal [(3,s'),(10,bS A o L c),(11,iV L),(12,iV (iz .add .i64 i 1))] fr':=by
 rcases hs with⟨rfl,rfl⟩|⟨hne,B0,c0,rfl,LQ,hv⟩
 ·obtain⟨ρ,hρ⟩:∃ρ:Env,ρ=bO [(71,L),(72,c),(73,o),(10,i),(1,nd.op),(2,nd.n),(3,nd.kids),(4,nd.cj)] [(70,A)] []:=⟨_,rfl⟩;refine(amu.go ρ hf (by rw[hρ];rfl) (cg.app (bX (i:=10) (n:=71) (I:=i) (N:=L) (by rw[hρ];rfl) (by rw[hρ];rfl) hi) ⟨by rw[hρ];exact decide_eq_true h2,trivial⟩) ⟨by rw[hρ];exact hN.c0,by rw[hρ];exact hN.c1,by rw[hρ];exact hN.c2,by rw[hρ];exact hN.c3,trivial⟩).mono fun g1 w1 hd=>?_;obtain⟨I,B,bR,rfl,f1,F1,bl,_⟩:=hd;rw[hρ]at F1 bl;exact⟨bR,_,rfl,f1.mono fun x hx=>ax hb hx,.inr ⟨by simp,B 102,(I 102).toNat,rfl,ax hb bl.1.1,bl.1.2⟩,F1⟩
 ·obtain⟨ρ,hρ⟩:∃ρ:Env,ρ=bO [(71,L),(72,c),(73,o),(10,i),(1,nd.op),(2,nd.n),(3,nd.kids),(4,nd.cj),(8,l.length),(57,c0)] [(70,A),(62,B0)] [(63,.agg (l.map iV).toArray)]:=⟨_,rfl⟩;have e62:ρ.b 62=B0:=by rw[hρ];rfl
  have e70:ρ.b 70=A:=by rw[hρ];rfl
  refine(amv.Df ρ hf (by rw[hρ];rfl) (cg.app (l':=[_,_]) (bX (i:=10) (n:=71) (I:=i) (N:=L) (by rw[hρ];rfl) (by rw[hρ];rfl) hi) ⟨by rw[hρ];exact decide_eq_true h2,by
    rw[hρ];show decide ((((l.length:Int).toNat:Nat):Int)+1≤1048576)=true;exact decide_eq_true (by omega),trivial⟩) ⟨by rw[hρ];exact hN.c0,by rw[hρ];exact hN.c1,by rw[hρ];exact hN.c2,by rw[hρ];exact hN.c3,trivial⟩ (fun q hq x hx=>by
    obtain rfl:=ah.1 hx;simp only[ai,aA,or_false]at hq;show ρ.b 62≠_;rw[e62];rcases hq with rfl|rfl|rfl|rfl
    ·show B0≠ρ.b 70;omega
    ·show B0≠ρ.b 70;omega
    ·show B0≠ρ.b 70;omega
    ·show B0≠ρ.b 70;omega) ⟨⟨.vec 3 c0 (l.map iV),by rw[e62];exact hv,rfl,by rw[hρ];rfl,fun inf rS=>?_,(nofun),by rw[hρ];rfl⟩,trivial⟩ eS).mono fun g1 w1 hd=>?_
  ·rw[yb inf rS,hρ];show(l.map iV).length=((l.length:Nat):Int).toNat*1;rw[aD];omega
  obtain⟨I,B,bR,rfl,kp,F1,bl,_⟩:=hd;have own:∀x,k_ ρ w [(62,.pre false 63 (v 8) [] [] [] 3 (v 57))] x->base≤x:=fun x hx=>by
   rcases hx with h|⟨y,hy,e⟩
   ·exact ax hb h
   ·obtain rfl:=ah.1 hy;have e:ρ.b 62=x:=e;omega
  have hB:(cy.vec 3 (I 102).toNat ((l++[nd.n]).map iV)).at Tryz.prog w1 (B 102):=by have:=bl.1.2;rw[hρ]at this;rw[bu];exact this
  have hn:((((l.length:Int).toNat:Nat):Int)+1).toNat=(l++[nd.n]).length:=by rw[an,bp];omega
  refine⟨bR,bS (B 102) 0 (l++[nd.n]).length (I 102).toNat,rfl,kp.mono own,.inr ⟨by simp,B 102,(I 102).toNat,rfl,own _ bl.1.1,hB⟩,?_⟩;rw[<-hn];rw[hρ]at F1;exact F1
theorem c7.P5{base:Nat}{s:Value}{l:List Int}{w':World}(h:c7 w base s l)(f:bA w w'):c7 w' base s l:=by
 rcases h with h|⟨h1,B,c,h2,h3,h4⟩
 ·exact .inl h
 ·exact .inr ⟨h1,B,c,h2,h3,bP h4 f⟩
theorem B_{A o c:Nat}{tree:List Nd}(hel:∀i n,tree[i]?=some n->iI w0 A (o+i*4) n)(hlen:tree.length≤999999):
  ∀(k i:Nat) {s:Value} {w:World} {fr:Frame},i+k=tree.length->c7 w w0.heap.size s (cT (tree.take i))->bA w0 w->FA 41 30 NaH [] .normal [(3,s),(10,bS A o tree.length c),(11,iV tree.length),(12,iV i)] fr->
  Goes (G fr cs) w fun g' w'=>∃fr' s',g'=G fr' cs∧bA w0 w'∧c7 w' w0.heap.size s' (cT tree)∧FA 41 30 NaH [] .normal [(3,s'),(10,bS A o tree.length c),(11,iV tree.length),(12,iV tree.length)] fr'
 |0,i,s,w,fr,hi,hs,fw,hf=>.here ⟨fr,s,rfl,fw,by rwa[List.take_of_length_le (by omega)]at hs,by rw[show tree.length=i by omega]at hf⊢;exact hf⟩
 |k+1,i,s,w,fr,hi,hs,fw,hf=>by
  have hlt:i<tree.length:=by omega
  obtain⟨nd,iK⟩:∃nd,tree[i]?=some nd:=⟨_,aa hlt⟩;have hN:=(hel i nd iK).keep fw;have EP:tree.take (i+1)=tree.take i++[nd]:=by rw[List.take_add_one,iK];rfl
  have hA:A<w0.heap.size:=j5 (hel i nd iK).c0;have ZS:(cT (tree.take i)).length≤1000000:=ax (ox _) (by rw[List.length_take];omega);by_cases h2:nd.op=2
  ·refine(Sr (base:=w0.heap.size) fw.size hA hs ZS hN h2 hlt hf).trans fun g1 w1 hd=>?_;obtain⟨bR,s',rfl,kp,hs',F1⟩:=hd;rw[inc (by omega)]at F1;refine B_ hel hlen k (i+1) (by omega) ?_ (cw fw kp) F1;have e:cT (tree.take (i+1))=cT (tree.take i)++[nd.n]:=by
    rw[EP];unfold cT;rw[List.filter_append,bu];simp[h2]
   rw[e];exact hs'
  ·obtain⟨ρ,hρ⟩:∃ρ:Env,ρ=bO [(71,tree.length),(72,c),(73,o),(10,i),(1,nd.op),(2,nd.n),(3,nd.kids),(4,nd.cj)] [(70,A)] [(5,s)]:=⟨_,rfl⟩;refine(amt.go ρ hf (by rw[hρ];rfl) (cg.app (bX (i:=10) (n:=71) (I:=i) (N:=tree.length) (by rw[hρ];rfl) (by rw[hρ];rfl) hlt) ⟨by rw[hρ];exact decide_eq_false h2,trivial⟩) ⟨by rw[hρ];exact hN.c0,by rw[hρ];exact hN.c1,by rw[hρ];exact hN.c2,by rw[hρ];exact hN.c3,trivial⟩).trans fun g1 w1 hd=>?_;obtain⟨I,B,bR,rfl,f1,F1,_⟩:=hd;rw[hρ]at F1;refine B_ hel hlen k (i+1) (s:=s) (by omega) ?_ (fw.trans f1) ?_
   ·have e:cT (tree.take (i+1))=cT (tree.take i):=by
     rw[EP];unfold cT;rw[List.filter_append,bu];simp[h2]
    rw[e];exact hs.P5 f1
   ·rw[<-inc (i:=i) (by omega)];exact F1
theorem Lr{x:cx}{ts:Value}(h:cK w ts x.tree)(hn:x.tree≠[])(hlen:x.tree.length≤999999):dV 41 #[fK x ts] w fun v w'=>bA w w'∧jq w' v (mS x):=by
 rcases h.ex with⟨_,h0⟩|⟨A,o,c,rfl,hc,hel⟩
 ·exact(hn h0).elim
 have hpos:0<x.tree.length:=by
  cases e:x.tree with
  |nil=>exact(hn e).elim
  |cons a b=>simp
 obtain⟨n0,h0⟩:∃n0,x.tree[0]?=some n0:=⟨_,aa hpos⟩;have Ux:cQ x=n0.op:=by
  unfold cQ;cases e:x.tree with
  |nil=>exact(hn e).elim
  |cons a b=>rw[e]at h0;obtain rfl:a=n0:=au h0;rfl
 have hN0:iI w A o n0:=by have:=hel 0 n0 h0;simpa using this
 refine cI fun cs=>?_;obtain⟨ρ,hρ⟩:∃ρ:Env,ρ=Go.Proofs.YtmobbajggkjpgaaGreat.SX.iS [(71,x.tree.length),(72,c),(73,o),(4,x.cj),(1,n0.op)] [(70,A)] [] [(1,x.name)]:=⟨_,rfl⟩;refine(amp.go ρ (cC TO rfl (fK x (bS A o x.tree.length c))) (by rw[hρ];rfl) trivial trivial).trans fun g1 w1 hd=>?_;obtain⟨I,B,bR,rfl,f1,F1,bl,_⟩:=hd;rw[hρ]at F1 bl;obtain⟨X,eX⟩:∃X,B 100=X:=⟨_,rfl⟩;have hX:(cy.obj 50 [.string x.name,bS A o x.tree.length c,iV x.cj]).at Tryz.prog w1 X:=by rw[<-eX];exact bl.1.2
 have fN:FA 41 30 (.inRegion (opsOf (vp 28)) [1,2]::[.code (vp 29),.code (vp 15)]) [] .normal [(1,bK X),(3,eH),(6,fK x (bS A o x.tree.length c))] bR:=by rw[<-eX];exact F1
 refine(amq.go (bO [] [] [(6,fK x (bS A o x.tree.length c))]) (Q:=fun v w'=>v=cY n0.op) fN rfl fun w' f2=>Dx (hN0.keep (f1.trans f2)) hpos).trans fun g2 w2 b_=>?_;obtain⟨cE,vv,rfl,f2,rfl,F2⟩:=b_;have f12:=f1.trans f2;obtain⟨σ,cr⟩:∃σ:Env,σ=Go.Proofs.YtmobbajggkjpgaaGreat.SX.iS [(71,x.tree.length),(72,c),(73,o),(4,x.cj),(1,n0.op)] [(70,A),(64,X)] [] [(1,x.name)]:=⟨_,rfl⟩;by_cases lQ:n0.op=18
 ·refine(amr.go σ F2 (by rw[cr];rfl) ⟨by rw[cr];exact decide_eq_true lQ,trivial⟩ trivial).trans fun g3 w3 cv=>?_;obtain⟨I,B,cF,rfl,f3,F3,_⟩:=cv;refine(leave1 Ix F3 rfl).mono fun g6 w6 dz=>?_;obtain⟨dK,rfl,rfl,hL⟩:=dz;refine⟨dK,_,rfl,hL,f12.trans f3,?_⟩;unfold mS;rw[if_pos (Ux.trans lQ)];exact⟨true,0,0,0,rfl,fun _=>rfl,(fun h=>by cases h),fun i n hi=>by cases hi⟩
 ·have DF:=bP hX f2;refine(ams.go σ F2 (by rw[cr];rfl) ⟨by rw[cr];exact decide_eq_false lQ,trivial⟩ ⟨by rw[cr];exact bG DF (i:=0) rfl,by rw[cr];exact bG DF (i:=1) rfl,by rw[cr];exact bG DF (i:=2) rfl,trivial⟩).trans fun g3 w3 cv=>?_;obtain⟨I,B,cF,rfl,f3,F3,_⟩:=cv;rw[cr]at F3;have f13:=f12.trans f3;refine(B_ (w0:=w3) (fun i n hi=>(hel i n hi).keep f13) hlen x.tree.length 0 (by omega) (.inl ⟨rfl,rfl⟩) (bA.refl _) F3).trans fun g4 w4 dh=>?_;obtain⟨eO,s',rfl,f4,hs',F4⟩:=dh;have f14:=f13.trans f4;have Y9:mS x=Lib.compact (B7 (cT x.tree)):=by
   unfold mS;rw[if_neg fun h=>lQ (Ux.symm.trans h)]
  rw[Y9];have hlt:∀σ:Env,σ.i 10=x.tree.length->σ.i 71=x.tree.length->(BE.cmp .lss (v 10) (.tn (v 71))).ev σ=false:=fun σ h1 h2=>by show decide (σ.i 10<(((σ.i 71).toNat:Nat):Int))=false;rw[h1,h2];exact decide_eq_false (by omega)
  rcases hs' with⟨rfl,oE⟩|⟨hne,B0,c0,rfl,LQ,hv⟩
  ·refine(amx.go (bO [(10,x.tree.length),(71,x.tree.length),(72,c),(73,o)] [(70,A)] []) F4 rfl ⟨hlt _ rfl rfl,trivial⟩ trivial).trans fun g5 w5 eg=>?_;obtain⟨I,B,gn,rfl,f5,F5,_⟩:=eg;refine(leave1 Ix F5 rfl).mono fun g6 w6 dz=>?_;obtain⟨dK,rfl,rfl,hL⟩:=dz;refine⟨dK,_,rfl,hL,f14.trans f5,?_⟩;have e0:Lib.compact (B7 ([]:List Int))=[]:=bg.1 (Nat.le_zero.1 (ax (qi _) (by rw[B8];exact ay _)));rw[oE,e0];exact⟨true,0,0,0,rfl,fun _=>rfl,(fun h=>by cases h),fun i n hi=>by cases hi⟩
  ·obtain⟨l,hl⟩:∃l,l=cT x.tree:=⟨_,rfl⟩;rw[<-hl]at hv F4 hne⊢;have ZS:l.length≤999999:=by
    rw[hl];exact ax (ox _) hlen
   refine(amw.go (bO [(10,x.tree.length),(71,x.tree.length),(72,c),(73,o)] [(70,A)] [(5,bS B0 0 l.length c0)]) F4 rfl ⟨hlt _ rfl rfl,trivial⟩ trivial).trans fun g5 w5 eg=>?_;obtain⟨I,B,gn,rfl,f5,F5,_⟩:=eg;have f15:=f14.trans f5;have gB:w3.heap.size≤B0:=LQ;have apM:=f13.size;refine(tB (ρ:=bO [] [] [(25,bS B0 0 l.length c0)]) (bs:=[]) (mem:=[]) (Q:=fun v w'=>bA w w'∧B0<w'.heap.size∧Holds (Value.int .i64) w' B0 0 (B7 l).toArray) F5 (fun p hp=>by obtain rfl:=ah.1 hp;exact cN rfl) Ll.want Ll.op Ll.low (nofun) (nofun) Ll.dst Ll.dlt Ll.Dg fun w' f6=>?_).trans fun g6 w6 dz=>?_
   ·have ZF:=bP hv (f5.trans f6);refine(P0 ZF (by omega)).mono fun v w2 hd=>?_;refine⟨cw (f15.trans f6) (hd.1.mono fun q hq=>?_),?_,hd.2⟩
    ·have:=(f15.trans f6).size;rcases hq with hq|hq<;>omega
    ·have:=cy.jR ZF;have:=hd.1.size;omega
   obtain⟨dK,vv,rfl,⟨BW,au_,hH6⟩,F6⟩:=dz;refine(amy.go (bO [] [] [(3,bS B0 0 l.length c0)]) (F6.only (l:=[(3,bS B0 0 l.length c0)]) rfl) rfl trivial trivial).trans fun g7 w7 mW=>?_;obtain⟨I,B,qX,rfl,f7,F7,_⟩:=mW;have Ul:=BW.trans f7;have hkH:∀{w8:World},bA w6 w8->Holds (Value.int .i64) w8 B0 0 (B7 l).toArray:=fun{w8} f8 j hj=>by obtain⟨h1,h2⟩:=hH6 j hj;refine⟨f8.cell h1,?_⟩;rw[<-h2];unfold World.frozen?;rw[f8.heap B0 (by omega)]
   have hcap:l.length≤c0:=P4 hv;have hsl:(B7 l).length=l.length:=B8 l;refine(tB (ρ:=bO [] [] [(27,bS B0 0 l.length c0)]) (bs:=[]) (mem:=[]) (Q:=fun v w'=>bA w w'∧v=bS B0 0 (Lib.compact (B7 l)).length c0∧∀i n,(Lib.compact (B7 l))[i]?=some n->w'.cell? ⟨B0,i,none⟩=some (iV n)) F7 (fun p hp=>by obtain rfl:=ah.1 hp;exact cN rfl) Lm.want Lm.op Lm.low (nofun) (nofun) Lm.dst Lm.dlt Lm.Dg fun w' f8=>?_).trans fun g8 w8 BH=>?_
   ·have hH:=hkH (f7.trans f8);have:=B9 (B:=B0) (c:=c0) (l:=B7 l) hH (by have:=(f7.trans f8).size;omega) (by omega) (by omega);rw[hsl]at this;refine this.mono fun v w2 hd=>⟨cw (Ul.trans f8) (hd.1.mono fun q hq=>?_),hd.2.1,hd.2.2⟩;have:=(Ul.trans f8).size;rcases hq with hq|hq<;>omega
   obtain⟨Np,vv,rfl,⟨Pm,rfl,hC⟩,F8⟩:=BH;have hcl:(Lib.compact (B7 l)).length≤c0:=ax (qi _) (by omega);refine(amz.go (bO [] [] [(28,bS B0 0 (Lib.compact (B7 l)).length c0)]) (Q:=fun v w'=>v=bS B0 0 (Lib.compact (B7 l)).length (Lib.compact (B7 l)).length) F8 rfl fun w' f2=>DM hcl).trans fun g9 w9 zA=>?_;obtain⟨E6,vv,rfl,f9,rfl,F9⟩:=zA;refine(amA.go (bO [] [] [(29,bS B0 0 (Lib.compact (B7 l)).length (Lib.compact (B7 l)).length)]) F9 rfl trivial trivial).trans fun ga wa hda=>?_;obtain⟨I,B,fra,rfl,fa,Fa,_⟩:=hda;refine(leave1 Ix Fa rfl).mono fun gb wb hdb=>?_;obtain⟨frb,rfl,rfl,hL⟩:=hdb;refine⟨frb,_,rfl,hL,Pm.trans (f9.trans fa),false,B0,0,(Lib.compact (B7 l)).length,rfl,(fun h=>by cases h),fun _=>ay _,fun i n hi=>?_⟩;rw[aF];exact(f9.trans fa).cell (hC i n hi)
end
end Go.Proofs.YtmobbajggkjpgaaGreat
