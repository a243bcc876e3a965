/-
  A symbolic run of the model, proved sound, and the walk of the code: a text of its parts. Conditions: none.
-/
import Derived.Test.YtmobbajggkjpgaaGreatLC
import Derived.Test.YtmobbajggkjpgaaGreatRows
import Derived.ChangeSame
import Derived.ChangeVars
import Derived.JoinedOf
import Derived.RowKit
import Derived.RowKitTokens
import Derived.LaidLaws
import Derived.LaidHandle
import Derived.Stop.Joined
import Derived.Conc.TokenWalk
set_option linter.unusedSectionVars false
set_option maxRecDepth 100000
set_option linter.unusedVariables false
set_option linter.unusedSimpArgs false
namespace Go.Proofs.YtmobbajggkjpgaaGreat.SX
open _root_.Bool renaming false_eq_true->aF
open _root_.Option renaming map_some->av
open _root_.Nat renaming le_refl->ax
section
variable {K:Ctx}{ρ:Env}{h:AH}{w:World}{U:Nat->Prop}{E:Value->World->Prop}
theorem BS{P:Program}{t:TypeId}{n:Nat}(hk:kind? P t=.ok n):fZ P (Extern.Rtype.kind t)=some n:=by
 unfold kind? at hk;split at hk
 ·rename_i h;cases hk;exact h
 ·cases hk
theorem Il{t:TypeId}{Q:Value->World->Prop}(hq:Q (.pointer (some ⟨K.P.globals.size,t,none⟩)) w):wq K.P K.Ev E (Extern.Rtype.handle t) Q w:=by simp only[Extern.Rtype.handle,bF,iH,bG];exact hq
theorem PU{t:TypeId}{a:AA}{fl:Nat}{r:AV}(hr:mkV? K.P t a fl=.ok r){Q:Value->World->Prop}(hq:Q (r.ev ρ) w):wq K.P K.Ev E (Extern.ReflectliteValue.mk t (a.ev ρ) fl) Q w:=by unfold mkV? at hr;rw[bH]at hr;obtain⟨n,hn,hr⟩:=hr;cases hr;unfold Extern.ReflectliteValue.mk;simp only[bF];refine Il (gm (BS hn) ?_);rw[bG];exact hq
theorem FT{P:Program}{t:TypeId}{a:AA}{fl:Nat}{r:AV}(hr:mkV? P t a fl=.ok r)(ha:a.In U):r.In U:=by unfold mkV? at hr;rw[bH]at hr;obtain⟨n,hn,hr⟩:=hr;cases hr;exact⟨⟨trivial,trivial⟩,ha,trivial,trivial⟩
theorem Eh{P:Program}{x:AV}{t:TypeId}(hx:handle? P x=some t)(ρ:Env):handleType P (x.ev ρ)=some t:=by
 unfold handle? at hx;split at hx
 ·split at hx
  ·rename_i b o hb;cases hx;simp only[AV.ev,av,AA.ev,BR.ev,IE.ev,handleType,hb,if_true];rfl
  ·cases hx
 ·cases hx
structure ox(P:Program)(x:AV)(t:TypeId)(a:AA)(f:Nat):Prop where
 ex:∃h,x=.agg [h,.ptr (some a),.int .u64 (.lit (.ofNat f))]∧handle? P h=some t
 pos:f≠0
 pack:P.packed t=false
theorem mq{P:Program}{x:AV}{t:TypeId}{a:AA}{f:Nat}(hp:partsV? P x=.ok (t,a,f)):ox P x t a f:=by
 unfold partsV? at hp;split at hp
 ·split at hp
  ·rename_i hh;split at hp
   ·cases hp
   ·rename_i hc;cases hp;simp only[Bool.or_eq_true,decide_eq_true_eq,not_or,Bool.not_eq_true]at hc;exact⟨⟨_,rfl,hh⟩,hc.1,hc.2⟩
  ·cases hp
 ·cases hp
theorem ox.in{x:AV}{t:TypeId}{a:AA}{f:Nat}(p:ox K.P x t a f)(hx:x.In U):a.In U:=by obtain⟨hh,rfl,_⟩:=p.ex;exact hx.2.1
theorem uD{x:AV}{t:TypeId}{a:AA}{f:Nat}(p:ox K.P x t a f){Q:Option (TypeId×Addr×Nat)->World->Prop}(hq:Q (some (t,a.ev ρ,f)) w):wq K.P K.Ev E (Extern.ReflectliteValue.partsAny (x.ev ρ)) Q w:=by obtain⟨hh,rfl,ht⟩:=p.ex;have hne:f≠0:=p.pos;obtain⟨m,rfl⟩:∃m,f=m+1:=⟨f-1,by omega⟩;show wq K.P K.Ev E (Extern.Rtype.ofHandle (hh.ev ρ)>>= fun t=>pure (some (t,a.ev ρ,m+1))) Q w;simp only[bF,Extern.Rtype.ofHandle,iH,Eh ht,bG];exact hq
theorem Im{s:String}{t:TypeId}(hp:K.P.packed t=false){Q:Unit->World->Prop}(hq:Q () w):wq K.P K.Ev E (Extern.Rtype.noPack s t) Q w:=by unfold Extern.Rtype.noPack;simp only[bF,iH,hp,aF,if_false,bG];exact hq
theorem wU{x:AV}{t:TypeId}{a:AA}{f:Nat}(p:ox K.P x t a f){Q:Option (TypeId×Addr×Nat)->World->Prop}(hq:Q (some (t,a.ev ρ,f)) w):wq K.P K.Ev E (Extern.ReflectliteValue.parts (x.ev ρ)) Q w:=by unfold Extern.ReflectliteValue.parts;rw[bF];refine uD p ?_;simp only[bF];refine Im p.pack ?_;rw[bG];exact hq
theorem rB{z:Sem Value}{g:TypeId->Addr->Nat->Nat->Sem Value}{x:AV}{t:TypeId}{a:AA}{f:Nat}(p:ox K.P x t a f){Q:Value->World->Prop}(hq:wq K.P K.Ev E (g t (a.ev ρ) f (f % 32)) Q w):
  wq K.P K.Ev E (Extern.ReflectliteValue.method z g (AV.evs ρ [x]).toArray) Q w:=by
 show wq K.P K.Ev E (Extern.ReflectliteValue.parts (x.ev ρ)>>= _) Q w;rw[bF];exact wU p hq
theorem yz{z:Sem Value}{g:TypeId->Addr->Nat->Nat->Sem Value}{x:AV}{t:TypeId}{a:AA}{f:Nat}(p:ox K.P x t a f){Q:Value->World->Prop}(hq:wq K.P K.Ev E (g t (a.ev ρ) f (f % 32)) Q w):
  wq K.P K.Ev E (Extern.ReflectliteValue.methodAny z g (AV.evs ρ [x]).toArray) Q w:=by
 show wq K.P K.Ev E (Extern.ReflectliteValue.partsAny (x.ev ρ)>>= _) Q w;rw[bF];exact uD p hq
theorem zd(G:K.Good)(R:Rel K ρ h w)(I:f_ K U h){x r:AV}{h':AH}(hx:x.In U)(hu:unpackV? K.P h x=.ok (r,h')):nC K U ρ h w (Extern.ReflectliteValue.unpack (x.ev ρ)) r h':=by
 unfold unpackV? at hu;split at hu
 ·rename_i t v;rw[bH]at hu;obtain⟨cs,hc,hu⟩:=hu;rw[bH]at hu;obtain⟨⟨y,h1⟩,ha,hu⟩:=hu;dsimp only at hu;split at hu
  ·rename_i a;rw[bH]at hu;obtain⟨r',hr,hu⟩:=hu;cases hu;obtain⟨_,g1,g2,g3⟩:=oq R I ha (kn hc hx);refine⟨FT hr g1,g2,fun{E Q} hq=>?_⟩;show wq K.P K.Ev E (newVar t (v.ev ρ)>>= fun b=>Extern.ReflectliteValue.mk t b 0) Q w;rw[bF];refine lD (gN hc ρ) ?_;obtain⟨ρ',a1,a2,a3,a4⟩:=g3 (AV.evs ρ cs).toArray (by simp[bO.fits]);have ha4:a.ev ρ'=⟨w.heap.size,0,none⟩:=by simpa[AV.ev] using a4
   rw[<-ha4];exact PU hr (hq _ _ ⟨ρ',a1,a2,a3,rfl⟩)
  ·cases hu
 ·cases hu;exact nC.pure R I ⟨trivial,trivial,trivial,trivial⟩ fun{E Q} hq=>hq
 ·cases hu
theorem ze(R:Rel K ρ h w)(I:f_ K U h){t:TypeId}{v:Value}(hv:fZ K.P (Extern.ReflectliteType.toType t)=some v):nC K U ρ h w (Extern.ReflectliteType.toType t) (ofValue v) h:=
 nC.pure R I (l7 v) fun{E Q} hq=>gm hv (by rw[l6]at hq;exact hq)
theorem KQ{v:AV}{b:Bool}(hb:isNil? v=.ok b){Q:Value->World->Prop}(hq:Q (.bool b) w):
  wq K.P K.Ev E (match v.ev ρ with
   |.chan none|.nilFunc|.nilIface|.map none|.pointer none|.slice none _ _=>(pure (.bool true):Sem Value)
   |_=>pure (.bool false)) Q w:=by
 unfold isNil? at hb;split at hb<;>cases hb<;>exact hq
theorem Io(G:K.Good)(R:Rel K ρ h w)(I:f_ K U h){z:Sem Value}{x r:AV}{h':AH}(hx:x.In U)(he:xIsNil? K.P K.O h x=.ok (r,h')):nC K U ρ h w (Extern.ReflectliteValue.method z Extern.ReflectliteValue.isNil (AV.evs ρ [x]).toArray) r h':=by
 unfold xIsNil? at he;rw[bH]at he;obtain⟨⟨t,a,fl⟩,hp,he⟩:=he;dsimp only at he;split at he
 ·rename_i hk;rw[bH]at he;obtain⟨v,hv,he⟩:=he;rw[bH]at he;obtain⟨b,hb,he⟩:=he;cases he;have p:=mq hp;refine nC.pure R I trivial fun{E Q} hq=>rB p ?_;unfold Extern.ReflectliteValue.isNil;simp only[hk,Bool.not_true,aF,if_false,bF,bG];exact ko R G hv (KQ hb hq)
 ·cases he
theorem Ip{P:Program}{t e:TypeId}(he:elemT? P t=.ok e):fZ P (Extern.Rtype.elem? t)=some (some e):=by
 unfold elemT? at he;split at he
 ·rename_i h;cases he;exact h
 ·cases he
theorem KR(G:K.Good)(R:Rel K ρ h w)(I:f_ K U h){z:Sem Value}{x r:AV}{h':AH}(hx:x.In U)(he:xElem? K.P K.O h x=.ok (r,h')):nC K U ρ h w (Extern.ReflectliteValue.method z Extern.ReflectliteValue.elem (AV.evs ρ [x]).toArray) r h':=by
 unfold xElem? at he;rw[bH]at he;obtain⟨⟨t,a,fl⟩,hp,he⟩:=he;dsimp only at he;have p:=mq hp;rw[bH]at he;obtain⟨v,hv,he⟩:=he;have Iq:=mT I hv;split at he
 ·rename_i hk;rw[bH]at he;obtain⟨e,cL,he⟩:=he;have jE:=Ip cL;have front:∀{E:Value->World->Prop} {Q:Value->World->Prop},wq K.P K.Ev E (match(22:Nat),v.ev ρ,some e with
    |20,i,_=>Extern.ReflectliteValue.unpack i
    |22,.pointer none,_=>pure Extern.ReflectliteValue.zeroV
    |22,.pointer (some p),some e=>Extern.ReflectliteValue.mk e p Extern.ReflectliteValue.flagAddr
    |_,_,_=>Extern.ReflectliteValue.valueError "reflectlite.Value.Elem" 22) Q w->wq K.P K.Ev E (Extern.ReflectliteValue.method z Extern.ReflectliteValue.elem (AV.evs ρ [x]).toArray) Q w:=by
   intro E Q hq;refine rB p ?_;rw[hk];show wq K.P K.Ev E (loadVar t (a.ev ρ)>>= _) Q w;rw[bF];refine ko R G hv ?_;rw[bF];exact gm jE hq
  split at he
  ·cases he;exact nC.pure R I ⟨trivial,trivial,trivial,trivial⟩ fun{E Q} hq=>front hq
  ·rename_i q;rw[bH]at he;obtain⟨r',hr,he⟩:=he;cases he;exact nC.pure R I (FT hr Iq) fun{E Q} hq=>front (PU hr hq)
  ·cases he
 ·split at he
  ·rename_i hk;rw[bH]at he;obtain⟨e,cL,he⟩:=he;have jE:fZ K.P (Extern.Rtype.elem? t)=some e:=by
    split at cL
    ·rename_i h;cases cL;exact h
    ·cases cL
   have H:=zd G R I Iq he;refine⟨H.mem,H.qz,fun{E Q} hq=>?_⟩;refine rB p ?_;rw[hk];show wq K.P K.Ev E (loadVar t (a.ev ρ)>>= _) Q w;rw[bF];refine ko R G hv ?_;rw[bF];refine gm jE ?_;exact H.run hq
  ·cases he
theorem wV{P:Program}{s:Sem Bool}{b:Bool}(h:Ft P s=.ok b):fZ P s=some b:=by
 unfold Ft at h;split at h
 ·rename_i h';cases h;exact h'
 ·cases h
theorem N4(G:K.Good)(R:Rel K ρ h w)(I:f_ K U h){v x r:AV}{h':AH}(hv:v.In U)(hx:x.In U)(he:xSet? K.P K.O h v x=.ok (r,h')):nC K U ρ h w (Extern.ReflectliteValue.set (AV.evs ρ [v,x]).toArray) r h':=by
 unfold xSet? at he;rw[bH]at he;obtain⟨⟨dst,a,fl⟩,hp,he⟩:=he;dsimp only at he;have p:=mq hp;rw[bH]at he;obtain⟨⟨src,b,fl2⟩,hp2,he⟩:=he;dsimp only at he;have p2:=mq hp2;split at he
 ·cases he
 ·rename_i hfl;rw[bH]at he;obtain⟨val,hval,he⟩:=he;rw[bH]at he;obtain⟨Rm,gT,he⟩:=he;rw[bH]at he;obtain⟨h1,hst,he⟩:=he;cases he;have Iq:=mT I hval;unfold setVal? at gT;have Ws:Rm.In U:=by
   split at gT
   ·cases gT
   ·cases gT;exact Iq
   ·split at gT
    ·split at gT
     ·split at gT
      ·split at gT
       ·cases gT;exact Iq
       ·cases gT
      ·cases gT;exact Iq
     ·cases gT
    ·cases gT
    ·cases gT
  have ids':=qw I hst (p.in hv) Ws;have fin:∀{E:Value->World->Prop} {Q:Value->World->Prop},(∀x w',After K U ρ w h' (fun ρ'=>x=cJ.ev ρ') w'->Q x w')->wq K.P K.Ev E (storeVar dst (a.ev ρ) (Rm.ev ρ)) (fun _ w=>Q (.tuple #[]) w) w:=fun hq=>mU R G hst fun w' R' kp _ _=>hq _ _ ⟨ρ,cv.refl _ _,R',kp,rfl⟩
  have nb:h'.nb=h.nb∧h'.fJ=h.fJ:=by
   have:=(lZ (P:=K.P) (Ev:=K.Ev) (E:=fun _ _=>False) (Q:=fun _ _=>h'.nb=h.nb∧h'.fJ=h.fJ) (mU (ρ:=ρ) R G hst (Q:=fun _ _=>h'.nb=h.nb∧h'.fJ=h.fJ) fun w' _ _ a b=>⟨a,b⟩)).1;generalize(storeVar dst (a.ev ρ) (Rm.ev ρ)).run K.P w=r at this;cases r with
   |ok u w'=>exact this
   |halt y w'=>cases y<;>exact this.elim
  refine⟨by simp[cJ,AV.In,AV.iw],⟨by rw[nb.1];exact ax _,nb.2,by rw[nb.1];exact ids'.congr (fun n=>⟨.inl,qa n⟩)⟩,fun{E Q} hq=>?_⟩;show wq K.P K.Ev E (Extern.ReflectliteValue.parts (v.ev ρ)>>= _) Q w;rw[bF];refine wU p ?_;rw[bF];refine wU p2 ?_;have abR:(fl / Extern.ReflectliteValue.flagAddr % 2==0)=false:=by simpa[Extern.ReflectliteValue.flagAddr] using hfl
  simp only[abR,aF,if_false,bF];refine ko R G hval ?_;split at gT
  ·cases gT
  ·rename_i hda;cases gT;refine gm (wV hda) ?_;simp only[if_true,bF,bG];exact fin hq
  ·rename_i hda;refine gm (wV hda) ?_;simp only[aF,if_false,bF];split at gT
   ·rename_i him;rw[vz]at him;refine gm (wV him) ?_;simp only[if_true,bF];split at gT
    ·rename_i k hk;refine gm (BS hk) ?_;split at gT
     ·rename_i h20;subst h20;simp only[beq_self_eq_true,if_true];split at gT
      ·cases gT;simp only[AV.ev,bF,bG];exact fin hq
      ·cases gT
     ·rename_i h20;have:(k==20)=false:=by simpa using h20
      cases gT;simp only[this,aF,if_false,bF,bG];exact fin hq
    ·cases gT
   ·cases gT
   ·cases gT
def BT(P:Program)(Nu:List (FuncId×XE)):Prop:=∀p∈Nu,∃e,sC P p.1 e∧p.2.sem e
theorem KS(G:K.Good){Nu:List (FuncId×XE)}(L:K.lock∨∀p∈Nu,p.2≠.quiet)(T:BT K.P Nu):iL K (ext? K.P K.O Nu):=by
 intro U ρ h w f args v h' R I ha he;have lift:∀{e:Array Value->Sem Value},sC K.P f e->nC K U ρ h w (e (AV.evs ρ args).toArray) v h'->rN K U ρ h w (callFunc f (AV.evs ρ args).toArray) (.value v) h':=fun hf H=>⟨H.mem,H.qz,fun hq _=>y4 G hf (H.run fun x w' ⟨ρ',a1,a2,a3,a4⟩=>hq _ _ ⟨ρ',a1,a2,a3,by rw[a4];rfl⟩)⟩
 unfold ext? at he;split at he
 ·cases he
 ·rename_i x hx;obtain⟨f',hm,hf'⟩:=iX hx;have:f=f':=by simpa using hf'
  subst this;obtain⟨e,Wt,pL⟩:=T _ hm;refine lift Wt ?_;dsimp only at pL;split at he
  ·
   have hs:e=_:=pL;subst hs;rw[bH]at he;obtain⟨n,hn,he⟩:=he;cases he;exact Wn G R I hn
  ·have hs:e=_:=pL;subst hs;rw[bH]at he;obtain⟨n,hn,he⟩:=he;cases he;exact Wo G R I ha.1 ha.2.1 hn
  ·have hs:e=_:=pL;subst hs;rw[bH]at he;obtain⟨n,hn,he⟩:=he;rw[bH]at he;obtain⟨h1,hh,he⟩:=he;cases he;exact Wr G R I ha.1 ha.2.1 hn hh
  ·have hs:e=_:=pL;subst hs;rw[bH]at he;obtain⟨n,hn,he⟩:=he;rw[bH]at he;obtain⟨b,hb,he⟩:=he;rw[bH]at he;obtain⟨h1,hh,he⟩:=he;cases he;exact Rl G R I ha.1 ha.2.2.1 hn hb hh
  ·have hs:e=_:=pL;subst hs;rw[bH]at he;obtain⟨n,hn,he⟩:=he;rw[bH]at he;obtain⟨h1,hh,he⟩:=he;cases he;exact Rk G R I ha.1 ha.2.1 hn hh (qZ I ⟨(pK R G hn).2.2 I,ha.2.1⟩)
  ·have hs:e=_:=pL;subst hs;cases he;exact Ak G R I _ (fun _=>rfl)
  ·have hs:e=_:=pL;subst hs;cases he;exact Ak G R I _ (fun _=>rfl)
  ·have hs:e=_:=pL;subst hs;cases he;exact Ak G R I _ (fun _=>rfl)
  ·obtain⟨m,rfl⟩:=pL;cases he;exact KP G (L.resolve_right fun x=>x _ hm rfl) R I m
  ·have hs:e=_:=pL;subst hs;split at he
   ·rename_i t _ vv hv;cases he;exact ze R I hv
   ·cases he
  ·have hs:e=_:=pL;subst hs;cases he;exact nC.pure R I trivial fun{E Q} hq=>hq
  ·have hs:e=_:=pL;subst hs;exact zd G R I ha.1 he
  ·obtain⟨z,rfl⟩:=pL;rw[bH]at he;obtain⟨⟨t,a,fl⟩,hp,he⟩:=he;dsimp only at he;split at he
   ·rename_i vv hv;cases he;have H:=ze R I hv (U:=U);exact⟨H.mem,H.qz,fun{E Q} hq=>yz (mq hp) (H.run hq)⟩
   ·cases he
  ·obtain⟨z,rfl⟩:=pL;exact Io G R I ha.1 he
  ·obtain⟨z,rfl⟩:=pL;exact KR G R I ha.1 he
  ·have hs:e=_:=pL;subst hs;exact N4 G R I ha.1 ha.2.1 he
  ·cases he
end
end Go.Proofs.YtmobbajggkjpgaaGreat.SX
namespace Go.Proofs.YtmobbajggkjpgaaGreat
open Go.ChangeShapes Go.WideShapes Go.RowKit Go.Proofs.YtmobbajggkjpgaaGreat.SX
def fns:List Nat:=[2,3,4,5,6,7,8,9,10,11,12,13,14,15,16,17,18,19,20,21,22,23,24,25,26,27,28,29,30,31,32,33,34,35,36,37,38,39,40,41,42,43,44,45,46,47,48,49,50,51,52,53,54,55,56,57,58,59,60,61,62,63,64,65,66,67,68,69,70,71,72,73,74,75,76,77,78,79,80,81,82,83,84,85,86,87,88,89,90,91,92,93,94,95,96,97,98,99,100,101,102,103,104,105,106,107,108,109,110,127,128]
def ext:List (FuncId×(Array Value->Sem Value)):=[]
def Nu:List (FuncId×XE):=[]
theorem zf:∀p∈ext,sC Tryz.prog p.1 p.2:=by intro p hp;cases hp
theorem zg:BT Tryz.prog Nu:=by intro p hp;cases hp
theorem KT:fns.all (Kk Tryz.prog)=true:=by kernel_rfl
theorem Tryz.own:ownKnob Tryz.prog.godebug=none:=by kernel_rfl
theorem mixed:Tryz.prog.follows .mixedOrders=true:=by kernel_rfl
end Go.Proofs.YtmobbajggkjpgaaGreat
namespace Go.Proofs.YtmobbajggkjpgaaGreat.SX
noncomputable section
def steps?(P:Program)(O:dH)(ext:Ext)(sum:qp)(f n:Nat):dU->M (dU⊕(AE×AH)):=
 Nat.rec (fun c=>.ok (.inl c)) (fun _ ih c=>
  match step? P O ext (fun g args h=>match sum g args h with
   |some r=>r
   |none=>match bP P g args .normal with
    |.ok fr=>run? P O ext sum f ⟨fr,[],h⟩
    |.error e=>.error e) c with
  |.ok (.inl c)=>ih c
  |.ok (.inr r)=>.ok (.inr r)
  |.error e=>.error e) n
def akw(f:FuncId):qp:=fun g args h=>match args with
 |[]=>Bool.rec none (some (.ok (.returned (.bool (.lit true)),h))) (Nat.beq g f)
 |_=>none
namespace Short
def I(n:Nat):AV:=.int .i64 (.lit (.ofNat n))
def A(i n:Nat):AV:=.ptr (some ⟨.dyn i,.lit (.ofNat n)⟩)
def T:AV:=.bool (.lit true)
def F:AV:=.bool (.lit false)
def Z:AV:=cJ
def L:TT:=.leaf
def N(v:AV)(l r:TT):TT:=.node v l r
def N1(v:AV):TT:=.node v .leaf .leaf
end Short
def pc(c:Code)(p:List Nat):Code:=
 match p with
 |[]=>c
 |i::p=>match c with
  |.seq a b=>match i with
   |0=>pc a p
   |_=>pc b p
  |.cond _ a b=>match i with
   |0=>pc a p
   |_=>pc b p
  |.block _ b=>pc b p
  |.loop b=>pc b p
  |.scope b=>pc b p
  |c=>c
def opsOf(c:Code):Array Oper:=
 match c with
 |.region _ ops _=>ops
 |_=>#[]
def bD(f:Func):Code:=
 match f.body with
 |some c=>c
 |none=>.skip
end
noncomputable section
def e0:AH:=⟨[],0,0⟩
end
noncomputable section
structure zh where
 id:Nat
 cfg:dU
 ch:Nat
 z:Value
 ok:Bool
 Rn:List (AA×AV)
def dH.bare(O:dH):dH:={O with bs:=[],is:=[],mem:=[]}
end
end Go.Proofs.YtmobbajggkjpgaaGreat.SX
namespace Go.Proofs.YtmobbajggkjpgaaGreat.SX
open Go.Conc
open _root_.List renaming mem_cons_of_mem->aa,mem_cons_self->ai,mem_cons->aj,mem_map->bq
open _root_.Nat renaming eq_of_beq_eq_true->aH
def al7(P:Program)(ρ:Env)(c:dU)(cs:List Frame)(g:Goroutine):Prop:=∃fr fV,j5 P ρ c.cur fr∧ic P ρ c.callers fV∧g=G fr (fV++cs)
structure al_(U:Nat->Prop)(c:dU):Prop where
 cur:c.cur.In U
 callers:∀fr∈c.callers,fr.In U
section
variable {P:Program}{main:Bool}{O:dH}{ext:Ext}{U:Nat->Prop}{ρ:Env}{cs:List Frame}
def Wu(P:Program):Frame:={(default:Frame)with fn:=P.funcs.size,defers:=[],mode:=.panicking [goexitEntry]}
end
theorem zi(i:Nat)(p:Nat×bO)(l:List (Nat×bO)):cE i (p::l)=Bool.rec (cE i l) (some p.2) (Nat.beq i p.1):=rfl
theorem kU{i:Nat}{b:bO}:∀{l:List (Nat×bO)},cE i l=some b->(i,b)∈l
 |[],h=>by cases h
 |p::l,h=>by
  rw[zi]at h;cases e:Nat.beq i p.1 with
  |true=>rw[e]at h;have h':some p.2=some b:=h;have e2:=aH e;cases h';rw[e2];exact ai ..
  |false=>rw[e]at h;exact aa _ (kU (l:=l) h)
theorem BU{i:Nat}{b:bO}:∀{l:List (Nat×bO)},(keys l).Nodup->(i,b)∈l->cE i l=some b
 |[],_,h=>by cases h
 |p::l,hn,h=>by
  rw[zi];have hn':(p.1::keys l).Nodup:=hn;rcases aj.1 h with rfl|h
  ·simp
  ·cases e:Nat.beq i p.1 with
   |true=>have e2:=aH e;have:i∈keys l:=bq.2 ⟨(i,b),h,rfl⟩;rw[e2]at this;exact absurd this (List.nodup_cons.1 hn').1
   |false=>exact BU (List.nodup_cons.1 hn').2 h
section
variable {K:Ctx}{main:Bool}{U:Nat->Prop}{ρ:Env}{cs:List Frame}
theorem KU(Gd:K.Good)(F:K.iK){ext:Ext}(X:iL K ext){sum:qp}(Z:za K main sum){f:Nat}:∀{n:Nat} {c:dU} {r:dU⊕(AE×AH)},steps? K.P K.O ext sum f n c=.ok r->
  match r with
  |.inl c'=>bot c'.cur.fn c'.callers=bot c.cur.fn c.callers∧∃N,kS K main c c' N
  |.inr r=>∃N,Ends K main c r N:=by
 intro n
 induction n with
 |zero=>intro c r he;have:(Except.ok (.inl c):M (dU⊕(AE×AH)))=.ok r:=he;cases this;exact⟨rfl,0,fun U ρ cs g w I Γ=>Walk.stop ⟨ρ,cv.refl _ _,bS.refl _ _,c7.refl I.ids,I.congr (ku U _),Γ⟩⟩
 |succ n ih=>
  intro c r he;have he':(match step? K.P K.O ext (fun g args h=>match sum g args h with
   |some r=>r
   |none=>match bP K.P g args .normal with
    |.ok fr=>run? K.P K.O ext sum f ⟨fr,[],h⟩
    |.error e=>.error e) c with
   |.ok (.inl c)=>steps? K.P K.O ext sum f n c
   |.ok (.inr r)=>.ok (.inr r)
   |.error e=>.error e)=.ok r:=he
  have C:=zb (K:=K) (main:=main) Z (k:=run? K.P K.O ext sum f) (Rj Gd F X Z);split at he'
  ·rename_i c' hs;obtain⟨N,L⟩:=vi Gd F X C hs;have hb:=BQ hs;have h2:=ih he';cases r with
   |inl c2=>obtain⟨b2,M,L2⟩:=h2;exact⟨b2.trans hb,N+M,L.trans L2⟩
   |inr r2=>obtain⟨M,E⟩:=h2;exact⟨N+M,L.ends hb E⟩
  ·rename_i r' hs;cases he';exact vi Gd F X C hs
  ·cases he'
theorem bS.mono{o o':Nat->Prop}{w w':World}(h:bS o w w')(hs:∀n,o n->o' n):bS o' w w':=⟨fun n hn=>h.heap n fun x=>hn (hs n x),h.size,h.tape,h.os,h.output⟩
end
def Ro(qF:List zh)(ρ:Env)(b:Nat):Prop:=∃s∈qF,b=ρ.b s.ch
def Rq(qF:List zh)(ρ:Env)(b n:Nat):Prop:=∃s∈qF,∃p∈s.Rn,p.1.ev ρ=⟨b,n,none⟩
def Rr(qF:List zh)(ρ:Env)(b n:Nat):Prop:=Rq qF ρ b n∨(n=0∧Ro qF ρ b)
def akx(O:dH)(qF:List zh)(ρ:Env)(a:Addr):Prop:=Rr qF ρ a.block a.off∨∃p∈O.mem,p.1.ev ρ=a
def al'(P:Program)(cs:List Frame)(i:Nat):List Frame:=if i=0 then cs else[Wu P]
end Go.Proofs.YtmobbajggkjpgaaGreat.SX
namespace Go.Proofs.YtmobbajggkjpgaaGreat.SX
open _root_.List renaming mem_cons->aj,map_cons->aK,mem_map->bq
noncomputable section
structure Sub where
 is:List (Nat×IE):=[]
 bs:List (Nat×Nat):=[]
 vs:List (Nat×AV):=[]
def Sub.i(s:Sub)(n:Nat):IE:=
 match look (fun a b=>Nat.beq a b) n s.is with
 |some e=>e
 |none=>.var n
def Sub.b(s:Sub)(n:Nat):Nat:=
 match look (fun a b=>Nat.beq a b) n s.bs with
 |some m=>m
 |none=>n
def Sub.v(s:Sub)(n:Nat):AV:=
 match look (fun a b=>Nat.beq a b) n s.vs with
 |some a=>a
 |none=>.bC n
def FU:AV->Bool
 |.tuple []=>true
 |_=>false
def Sub.full(s:Sub):Bool:=s.vs.all fun p=>!FU p.2
end
noncomputable def Env.sub(s:Sub)(ρ:Env):Env:={i:=fun n=>(s.i n).ev ρ,p:=ρ.p,v:=fun n=>(s.v n).ev ρ,b:=fun n=>ρ.b (s.b n),bt:=ρ.bt,s:=ρ.s}
section
variable {s:Sub}{ρ:Env}
theorem sM{α β:Type}{f:α->β}:∀{l:List α},(l.map f).Nodup->∀{a b:α},a∈l->b∈l->f a=f b->a=b
 |x::l,h,a,b,ha,hb,e=>by
  rw[aK,List.nodup_cons]at h;rcases aj.1 ha with e1|h1
  ·rcases aj.1 hb with e2|h2
   ·rw[e1,e2]
   ·exact absurd (bq.2 ⟨b,h2,by rw[<-e,e1]⟩) h.1
  ·rcases aj.1 hb with e2|h2
   ·exact absurd (bq.2 ⟨a,h1,by rw[e,e2]⟩) h.1
   ·exact sM h.2 h1 h2 e
structure N5(K:Ctx)(O:dH)(ρ:Env)(w:World):Prop where
 bs:∀p∈O.bs,p.1.ev ρ=p.2
 is:∀p∈O.is,p.1.ev ρ=p.2.ev ρ
 mem:∀p∈O.mem,¬K.own (p.1.ev ρ).block∧w.cell? (p.1.ev ρ)=some (p.2.ev ρ)∧∀s,K.Ev ⟨.cell (p.1.ev ρ),false,s⟩
def Ctx.with(K:Ctx)(O:dH):Ctx:={K with O:=O}
end
end Go.Proofs.YtmobbajggkjpgaaGreat.SX
namespace Go.Proofs.YtmobbajggkjpgaaGreat.SX
open Go.Conc
open _root_.List renaming mem_cons->aj,getElem?_eq_some_iff->aq,all_eq_true->aD,length_map->aE,getElem?_map->aL,length_range->aT,getElem?_append_left->aV,getD_eq_getElem?_getD->bg,mem_map->bq
open _root_.Bool renaming and_eq_true->an
open _root_.Option.some renaming inj->au
open _root_.Nat renaming zero_add->aG
open _root_.Array renaming getElem?_toList->bn
section
noncomputable section
def IE.low(n:Nat):IE->Bool
 |.lit _=>true
 |.var i=>Nat.ble (i+1) n
 |.op _ _ a b=>a.low n&&b.low n
 |.conv _ a=>a.low n
 |.plus a b=>a.low n&&b.low n
 |.times a b=>a.low n&&b.low n
 |.tn a=>a.low n
 |.jj _=>true
def BE.low(n:Nat):BE->Bool
 |.cmp _ a b=>a.low n&&b.low n
 |_=>true
def BR.low(n:Nat):BR->Bool
 |.qN _=>true
 |.dyn i=>Nat.ble (i+1) n
def AA.low(n:Nat)(a:AA):Bool:=a.blk.low n&&a.off.low n
def tW{α:Type}(f:α->Bool):Option α->Bool
 |none=>true
 |some a=>f a
mutual
def AV.low(n:Nat):AV->Bool
 |.bool b=>b.low n
 |.int _ e=>e.low n
 |.ptr a=>tW (AA.low n) a
 |.slice a l c=>tW (AA.low n) a&&l.low n&&c.low n
 |.map r=>tW (BR.low n) r
 |.chan r=>tW (BR.low n) r
 |.func _ x y=>AV.qq n x&&AV.qq n y
 |.iface _ v=>v.low n
 |.agg x=>AV.qq n x
 |.tuple x=>AV.qq n x
 |.str _=>true
 |.nilFunc=>true
 |.nilIface=>true
 |.bC _=>true
 |.raw _=>true
 |.ss _=>true
def AV.qq(n:Nat):List AV->Bool
 |[]=>true
 |a::x=>a.low n&&AV.qq n x
end
def TT.low(n:Nat):TT->Bool
 |.leaf=>true
 |.node v l r=>v.low n&&l.low n&&r.low n
def AD.low(n:Nat)(d:AD):Bool:=
 match d with
 |⟨.fn _ c,args⟩=>AV.qq n c&&AV.qq n args
 |⟨.builtin _ _ _ _,args⟩=>AV.qq n args
def gK.low(n:Nat):gK->Bool
 |.panicking chain=>chain.all fun x=>x.1.low n
 |_=>true
def bR.low(n:Nat)(fr:bR):Bool:=fr.tmps.low n&&fr.defers.all (AD.low n)&&fr.mode.low n
def bO.low(n:Nat):bO->Bool
 |.cells cs _=>AV.qq n cs
 |.row cs _ c=>AV.qq n cs&&c.low n
 |.gi cs _ _=>AV.qq n cs
 |.map es=>es.all fun p=>p.1.low n&&p.2.low n
 |.chan=>true
 |.jA _ m fs ws=>m.low n&&fs.all (fun p=>p.1.low n&&tW (AV.low n) p.2)&&ws.all fun p=>p.1.low n&&p.2.low n
 |.pre _ _ m fs ws cs _ c=>m.low n&&fs.all (fun p=>p.1.low n&&p.2.low n)&&ws.all (fun p=>p.1.low n&&p.2.low n)&&AV.qq n cs&&c.low n
def tX:List Nat->Bool
 |[]=>true
 |a::l=>l.all (fun b=>!Nat.beq a b)&&tX l
def rC(n:Nat)(c:dU):Bool:=
 c.cur.low n&&c.callers.all (bR.low n)&&c.h.hp.all (fun p=>Nat.ble (p.1+1) n&&p.2.low n)&&tX (c.h.hp.map (·.1))
def dH.low(n:Nat)(O:dH):Bool:=
 O.bs.all (fun p=>p.1.low n)&&O.is.all (fun p=>p.1.low n&&p.2.low n)&&O.mem.all (fun p=>p.1.low n&&p.2.low n)
def zk(hp:List (Nat×bO)):List Nat->Option (List (Nat×bO))
 |[]=>some []
 |k::ks=>match cE k hp,zk hp ks with
  |some b,some l=>some ((k,b)::l)
  |_,_=>none
def chunkTo?(P:Program)(O:dH)(ext:Ext)(sum:qp)(f n:Nat)(ks:List Nat)(c:dU):M dU:=
 match steps? P O ext sum f n c with
 |.ok (.inl ⟨cur,callers,⟨hp,nb,fJ⟩⟩)=>match tX ks,zk hp ks with
  |true,some hp=>.ok ⟨cur,callers,⟨hp,nb,fJ⟩⟩
  |_,_=>.error "chunk blocks"
 |.ok (.inr _)=>.error "chunk it ends"
 |.error e=>.error e
end
section
variable {n:Nat}
abbrev Below(n:Nat):Nat->Prop:=fun m=>m<n
theorem IE.cN:∀{e:IE},e.low n=true->e.In (Below n):=by
 intro e
 induction e with
 |lit _=>intro _;trivial
 |var i=>intro h;exact Nat.le_of_ble_eq_true h
 |op o k a b vJ ya=>intro h;simp only[IE.low,an]at h;exact⟨vJ h.1,ya h.2⟩
 |conv k a ih=>exact ih
 |plus a b vJ ya=>intro h;simp only[IE.low,an]at h;exact⟨vJ h.1,ya h.2⟩
 |times a b vJ ya=>intro h;simp only[IE.low,an]at h;exact⟨vJ h.1,ya h.2⟩
 |tn a ih=>exact ih
 |jj a=>exact fun _=>trivial
theorem BE.cN{e:BE}(h:e.low n=true):e.In (Below n):=by
 cases e with
 |cmp o a b=>simp only[BE.low,an]at h;exact⟨IE.cN h.1,IE.cN h.2⟩
 |_=>trivial
theorem BR.cN{e:BR}(h:e.low n=true):e.In (Below n):=by
 cases e with
 |qN g=>trivial
 |dyn i=>exact Nat.le_of_ble_eq_true h
theorem AA.cN{a:AA}(h:a.low n=true):a.In (Below n):=by simp only[AA.low,an]at h;exact⟨BR.cN h.1,IE.cN h.2⟩
theorem nU{α:Type}{f:α->Bool}{g:α->Prop}(hf:∀{a},f a=true->g a):∀{o:Option α},tW f o=true->k_ g o
 |none,_=>trivial
 |some _,h=>hf h
mutual
theorem AV.cN:∀(a:AV),a.low n=true->a.In (Below n)
 |.bool b,h=>by simp only[AV.low]at h;exact BE.cN h
 |.int _ e,h=>by simp only[AV.low]at h;exact IE.cN h
 |.ptr a,h=>by simp only[AV.low]at h;exact nU AA.cN h
 |.slice a l c,h=>by simp only[AV.low,an]at h;exact⟨nU AA.cN h.1.1,IE.cN h.1.2,IE.cN h.2⟩
 |.map r,h=>by simp only[AV.low]at h;exact nU BR.cN h
 |.chan r,h=>by simp only[AV.low]at h;exact nU BR.cN h
 |.func _ x y,h=>by simp only[AV.low,an]at h;exact⟨AV.iZ x h.1,AV.iZ y h.2⟩
 |.iface _ v,h=>by simp only[AV.low]at h;exact AV.cN v h
 |.agg x,h=>by simp only[AV.low]at h;exact AV.iZ x h
 |.tuple x,h=>by simp only[AV.low]at h;exact AV.iZ x h
 |.str _,_=>trivial
 |.nilFunc,_=>trivial
 |.nilIface,_=>trivial
 |.bC _,_=>trivial
 |.raw _,_=>trivial
 |.ss _,_=>trivial
theorem AV.iZ:∀(l:List AV),AV.qq n l=true->AV.iw (Below n) l
 |[],_=>trivial
 |a::x,h=>by simp only[AV.qq,an]at h;exact⟨AV.cN a h.1,AV.iZ x h.2⟩
end
theorem TT.cN:∀{t:TT},t.low n=true->t.In (Below n):=by
 intro t
 induction t with
 |leaf=>intro _ m;show cJ.In _;simp[cJ,AV.In,AV.iw]
 |node v l r ihl ihr=>
  intro h m;simp only[TT.low,an]at h;cases m with
  |zero=>exact AV.cN _ h.1.1
  |succ m=>
   rw[TT.iu];split
   ·exact ihr h.2 _
   ·exact ihl h.1.2 _
theorem AD.cN{d:AD}(h:d.low n=true):d.In (Below n):=by
 obtain⟨t,a⟩:=d;cases t with
 |fn f c=>simp only[AD.low,an]at h;exact⟨AV.iZ _ h.1,AV.iZ _ h.2⟩
 |builtin b x t c=>exact⟨trivial,AV.iZ _ h⟩
theorem bR.cN{fr:bR}(h:fr.low n=true):fr.In (Below n):=by
 simp only[bR.low,an]at h;refine⟨TT.cN h.1.1,fun d hd=>AD.cN (aD.1 h.1.2 d hd),?_⟩;have h2:=h.2;cases e:fr.mode with
 |panicking chain=>rw[e]at h2;exact fun x hx=>AV.cN _ (aD.1 h2 x hx)
 |_=>trivial
theorem bO.cN{b:bO}(h:b.low n=true):b.In (Below n):=by
 cases b with
 |cells cs e=>exact AV.iZ _ h
 |row cs e c=>simp only[bO.low,an]at h;exact⟨AV.iZ _ h.1,IE.cN h.2⟩
 |gi cs e l=>exact AV.iZ _ h
 |map es=>intro p hp;have:=aD.1 h p hp;simp only[an]at this;exact⟨AV.cN _ this.1,AV.cN _ this.2⟩
 |chan=>trivial
 |jA s m fs ws=>
  simp only[bO.low,an]at h;obtain⟨⟨h1,h2⟩,h3⟩:=h;refine⟨IE.cN h1,fun p hp=>?_,fun p hp=>?_⟩
  ·have:=aD.1 h2 p hp;simp only[an]at this;exact⟨AA.cN this.1,nU (fun h=>AV.cN _ h) this.2⟩
  ·have:=aD.1 h3 p hp;simp only[an]at this;exact⟨AV.cN _ this.1,AV.cN _ this.2⟩
 |pre lk s m fs ws cs e c=>
  simp only[bO.low,an]at h;obtain⟨⟨⟨⟨h1,h2⟩,h3⟩,h4⟩,h5⟩:=h;have two:∀{l:List (IE×AV)},(l.all fun p=>p.1.low n&&p.2.low n)=true->∀p∈l,p.1.In (Below n)∧p.2.In (Below n):=fun h p hp=>by have:=aD.1 h p hp;simp only[an]at this;exact⟨IE.cN this.1,AV.cN _ this.2⟩
  exact⟨IE.cN h1,two h2,two h3,AV.iZ _ h4,IE.cN h5⟩
theorem tY:∀{l:List Nat},tX l=true->l.Nodup
 |[],_=>List.nodup_nil
 |a::l,h=>by simp only[tX,an]at h;refine List.nodup_cons.2 ⟨fun hm=>?_,tY h.2⟩;have:=aD.1 h.1 a hm;simp at this
theorem dH.cN{O:dH}(h:O.low n=true):O.In (Below n):=by
 simp only[dH.low,an]at h;refine⟨fun p hp=>BE.cN (aD.1 h.1.1 p hp),fun p hp=>?_,fun p hp=>?_⟩
 ·have:=aD.1 h.1.2 p hp;simp only[an]at this;exact⟨IE.cN this.1,IE.cN this.2⟩
 ·have:=aD.1 h.2 p hp;simp only[an]at this;exact⟨AA.cN this.1,AV.cN _ this.2⟩
theorem zl{K:Ctx}{c:dU}(h:rC n c=true)(hn:c.h.nb=n)(hO:K.O.low n=true):gp K (Below n) c:=by
 simp only[rC,an]at h;obtain⟨⟨⟨h1,h2⟩,h3⟩,h4⟩:=h;have blk:∀p∈c.h.hp,p.1<n∧p.2.In (Below n):=fun p hp=>by have:=aD.1 h3 p hp;simp only[an]at this;exact⟨Nat.le_of_ble_eq_true this.1,bO.cN this.2⟩
 refine⟨bR.cN h1,fun fr hf=>bR.cN (aD.1 h2 fr hf),fun i b hb=>(blk _ (kU hb)).2,fun i hi=>?_,tY h4,fun m hm _ hl=>?_,dH.cN hO⟩
 ·obtain⟨p,hp,rfl⟩:=bq.1 hi;exact(blk p hp).1
 ·have hl':m<n:=hl;omega
end
section
variable {K:Ctx}{main:Bool}{U:Nat->Prop}{ρ:Env}{cs:List Frame}
theorem wW{hp:List (Nat×bO)}:∀{ks:List Nat} {l:List (Nat×bO)},zk hp ks=some l->keys l=ks∧∀p∈l,cE p.1 hp=some p.2
 |[],l,h=>by cases h;exact⟨rfl,fun p hp=>by cases hp⟩
 |k::ks,l,h=>by
  unfold zk at h;split at h
  ·rename_i b l' hb hl;cases h;obtain⟨h1,h2⟩:=wW hl;refine⟨by show k::keys l'=_;rw[h1],fun p hp=>?_⟩;rcases aj.1 hp with rfl|hp
   ·exact hb
   ·exact h2 p hp
  ·cases h
theorem tZ{hp l:List (Nat×bO)}{ks:List Nat}(h:zk hp ks=some l){i:Nat}{b:bO}(hb:cE i l=some b):cE i hp=some b:=(wW h).2 _ (kU hb)
theorem Rel.sub{hp hp':List (Nat×bO)}{nb fJ nb' abT:Nat}{w:World}(R:Rel K ρ ⟨hp,nb,fJ⟩ w)(hs:∀i b,cE i hp'=some b->cE i hp=some b):Rel K ρ ⟨hp',nb',abT⟩ w:=
 ⟨fun i b h=>R.blk i b (hs i b h),fun i b h=>R.qV i b (hs i b h),fun i j b c h h' e=>R.inj i j b c (hs i b h) (hs j c h') e,R.bs,R.is,R.mem,R.room,fun i b h=>R.gi i b (hs i b h),R.low⟩
theorem yA{l:List (Nat×bO)}{i:Nat}(h:i∈keys l)(hn:(keys l).Nodup):∃b,cE i l=some b:=by obtain⟨p,hp,rfl⟩:=bq.1 h;exact⟨p.2,BU hn hp⟩
theorem Next.pick{w w':World}{h0:AH}{cur:bR}{callers:List bR}{hp l:List (Nat×bO)}{nb fJ:Nat}{ks:List Nat}{g':Goroutine}(hk:tX ks=true)(hl:zk hp ks=some l)
 (h:Next K U ρ cs w h0 ⟨cur,callers,⟨hp,nb,fJ⟩⟩ g' w'):Next K U ρ cs w h0 ⟨cur,callers,⟨l,nb,fJ⟩⟩ g' w':=by
 obtain⟨ρ',a1,a2,a3,a4,R,Γ⟩:=h;have nd:(keys l).Nodup:=by rw[(wW hl).1];exact tY hk
 have ids:∀{V:Nat->Prop},f_ K V ⟨hp,nb,fJ⟩->f_ K V ⟨l,nb,fJ⟩:=fun I=>⟨fun i b hb=>I.hp i b (tZ hl hb),fun i hi=>by obtain⟨b,hb⟩:=yA hi nd;exact I.keys i (p8 (tZ hl hb)),nd,I.fresh,I.A8⟩
 exact⟨ρ',a1,a2,⟨a3.nb,a3.fJ,ids a3.ids⟩,⟨a4.cur,a4.callers,ids a4.ids⟩,R.sub fun i b hb=>tZ hl hb,Γ⟩
theorem Ei(Gd:K.Good)(F:K.iK){ext:Ext}(X:iL K ext){sum:qp}(Z:za K main sum){f n:Nat}{ks:List Nat}{c c':dU}(he:chunkTo? K.P K.O ext sum f n ks c=.ok c'):
  bot c'.cur.fn c'.callers=bot c.cur.fn c.callers∧∃N,kS K main c c' N:=by
 unfold chunkTo? at he;split at he
 ·rename_i cur callers hp nb fJ hs;split at he
  ·rename_i l hk hl;cases he;obtain⟨b,N,L⟩:=KU (main:=main) Gd F X Z hs;exact⟨b,N,fun U ρ cs g w I Γ=>(L U ρ cs g w I Γ).weaken fun _ _ h=>h.pick hk hl⟩
  ·cases he
 ·cases he
 ·cases he
end
end
noncomputable section
def TT.none:TT->Bool
 |.leaf=>true
 |.node v l r=>FU v&&(l.none&&r.none)
def swapT(c:dU)(t:TT):dU:=
 match c with
 |⟨⟨fn,nt,_,todo,defers,mode,kind⟩,callers,h⟩=>⟨⟨fn,nt,t,todo,defers,mode,kind⟩,callers,h⟩
end
noncomputable def uE{α:Type}(d:α)(n:Nat)(l:List (Nat×α)):α:=(look (fun a b=>Nat.beq a b) n l).getD d
noncomputable def bL(is:List (Nat×Int))(bs:List (Nat×Nat))(vs:List (Nat×Value)):Env:={i:=fun n=>uE 0 n is,p:=fun _=>false,v:=fun n=>uE undef n vs,b:=fun n=>uE 0 n bs,bt:=(none,[])}
noncomputable def jn(is:List (Nat×Int))(bs:List (Nat×Nat))(vs:List (Nat×Value))(ss:List (Nat×ByteArray)):Env:={bL is bs vs with s:=fun n=>uE ⟨#[]⟩ n ss}
noncomputable def dz(nt:Nat)(st:Nat->Value)(live:List (Nat×AV)):TT:=TT.fill ((List.range nt).map fun n=>(look (fun a b=>Nat.beq a b) n live).getD (.raw (st n))) 0 .leaf
theorem wX{nt:Nat}(hn:nt≤60000)(st:Nat->Value)(live:List (Nat×AV))(n:Nat):(dz nt st live).get n=if n<nt then(look (fun a b=>Nat.beq a b) n live).getD (.raw (st n))else cJ:=by
 unfold dz;rw[TT.r6 _ 0 .leaf n (by simpa using hn)];simp only[aE,aT,aG,Nat.sub_zero,Nat.zero_le,true_and];by_cases h:n<nt
 ·rw[if_pos h,if_pos h];simp[bg,aL,List.getElem?_range h]
 ·rw[if_neg h,if_neg h];rfl
section
variable {P:Program}{ρ ρ':Env}
structure Seen where
 fn:FuncId
 nt:Nat
 todo:List Item
 defers:List AD
 mode:gK
 kind:CallKind
 callers:List bR
 hp:List (Nat×bO)
 vals:List AV
noncomputable def t_(c:dU)(live:List Nat):Seen:=⟨c.cur.fn,c.cur.nt,c.cur.todo,c.cur.defers,c.cur.mode,c.cur.kind,c.callers,c.h.hp,live.map fun n=>c.cur.tmps.get n⟩
noncomputable def see(r:M dU)(live:List Nat):Option Seen:=
 match r with
 |.ok c=>some (t_ c live)
 |.error _=>none
theorem Rs{r:M dU}{live:List Nat}{s:Seen}(h:see r live=some s):∃c,r=.ok c∧t_ c live=s:=by
 cases r with
 |ok c=>exact⟨c,rfl,au h⟩
 |error e=>cases h
end
def EvS(still:Nat->Nat->Prop)(e:Event):Prop:=∀b n s,e=⟨.cell ⟨b,n,none⟩,true,s⟩->¬still b n
def Ctx.sub(K:Ctx)(O:dH)(own:Nat->Prop)(still:Nat->Nat->Prop):Ctx:=⟨K.P,O,own,fun e=>K.Ev e∧EvS still e,K.lock,fun b n=>K.still b n∨still b n⟩
section
variable {K:Ctx}{O:dH}{own:Nat->Prop}{still:Nat->Nat->Prop}
theorem sN(Gd:K.Good)(h:∀n,own n->K.own n):(K.sub O own still).Good:=by
 refine⟨fun a s ho=>⟨Gd.rd a s (h _ ho),fun b n s' e=>by cases e⟩,fun a s ho hn=>⟨Gd.wr a s (h _ ho) fun x=>hn (.inl x),fun b n s' e=>?_⟩,fun b n s hs he=>?_,fun m hm=>⟨Gd.ext m hm,fun b n s e=>by cases e⟩,⟨Gd.noRoom,fun b n s e=>by cases e⟩,fun L m=>⟨Gd.lock L m,fun b n s e=>by cases e⟩,fun r wr s ho=>⟨Gd.obj r wr s (h _ ho),fun b n s' e=>by cases e⟩⟩
 ·cases e;exact fun x=>hn (.inr x)
 ·rcases hs with hs|hs
  ·exact Gd.NF b n s hs he.1
  ·exact he.2 b n s rfl hs
theorem Rt(h:∀n,own n->K.own n)(w w':World)(es:Array Event)(d:DK (K.sub O own still) w w' es):DK K w w' es:=
 ⟨d.1.mono h,fun e he=>(d.2.1 e he).1,fun b n v hs hc=>d.2.2 b n v (.inl hs) hc⟩
end
theorem Walk.Wv{P:Program}{main:Bool}{D:World->World->Array Event->Prop}{S:Goroutine->World->Prop}{R:World->World->Prop}(r0:∀w,R w w)(rd:∀w d w',R (cx w d) w'->R w w')(rd':∀w d,R w (cx w d))(rt:∀w w' w'',R w w'->R w' w''->R w w'')(rD:∀w w' es,D w w' es->R w w'){n:Nat}{g:Goroutine}{w:World}(h:Walk P main D S n g w):
  Walk P main D (fun g' w'=>S g' w'∧R w w') n g w:=by
 have key:∀{k:Nat} {g:Goroutine} {w:World},fO P main D S k g w->∀w0,R w0 w->fO P main D (fun g' w'=>S g' w'∧R w0 w') k g w:=by
  intro k g w h
  induction h with
  |stop g w hs=>exact fun w0 hr=>fO.stop g w ⟨hs,hr⟩
  |step n g w g' w' es hr hs Kn _ ih=>exact fun w0 h0=>fO.step n g w g' w' es hr hs Kn fun d=>ih d w0 (rt _ _ _ h0 (rd _ d _ (rD _ _ _ (Kn d))))
  |off n g w g' hr hs _ ih=>exact fun w0 h0=>fO.off n g w g' hr hs fun d=>ih d w0 (rt _ _ _ h0 (rd' _ d))
  |on n g w g' hr hs _ ih=>exact fun w0 h0=>fO.on n g w g' hr hs fun d=>ih d w0 (rt _ _ _ h0 (rd' _ d))
 exact key h w (r0 w)
theorem m5.refl(S:Nat->Nat->Prop)(w:World):m5 S w w:=fun _ _ _ _ h=>h
theorem m5.trans{S:Nat->Nat->Prop}{w w' w'':World}(h:m5 S w w')(h':m5 S w' w''):m5 S w w'':=fun b n v hs hc=>h' b n v hs (h b n v hs hc)
structure Ww(K:Ctx)(U:Nat->Prop)(ρ:Env)(own:Nat->Prop)(still:Nat->Nat->Prop)(O:dH)(cs:List Frame)(live:List Nat)(V:Seen)(w:World)(g':Goroutine)(w':World)(ρ':Env)(c':dU)(fr':Frame)(sI:List Frame):Prop where
 mS:cv U ρ ρ'
 keeps:bS own w w'
 stays:m5 still w w'
 seen:t_ c' live=V
 fr:j5 K.P ρ' c'.cur fr'
 fV:ic K.P ρ' c'.callers sI
 rel:Rel (K.sub O own still) ρ' c'.h w'
 gor:g'=G fr' (sI++cs)
theorem piece{K:Ctx}{main:Bool}(Gd:K.Good){own:Nat->Prop}{still:Nat->Nat->Prop}(hown:∀n,own n->K.own n){O:dH}{ext:Ext}{sum:qp}(F:(K.sub O own still).iK)(X:iL (K.sub O own still) ext)(Z:za (K.sub O own still) main sum){f n:Nat}{ks:List Nat}{c:dU}{live:List Nat}{V:Seen}
 (hv:see (chunkTo? K.P O ext sum f n ks c) live=some V){nb:Nat}(hl:rC nb c=true)(hnb:c.h.nb=nb)(hO:O.low nb=true){ρ:Env}{fr:Frame}{fV cs:List Frame}{w:World}(hf:j5 K.P ρ c.cur fr)(hfs:ic K.P ρ c.callers fV)(R:Rel (K.sub O own still) ρ c.h w):
  Walk K.P main (DK K) (fun g' w'=>∃ρ' c' fr' sI,Ww K (Below nb) ρ own still O cs live V w g' w' ρ' c' fr' sI) 0 (G fr (fV++cs)) w:=by
 obtain⟨c',hc,hs⟩:=Rs hv;obtain⟨_,N,L⟩:=Ei (K:=K.sub O own still) (main:=main) (sN Gd hown) F X Z hc;have W:=L (Below nb) ρ cs (G fr (fV++cs)) w (zl (K:=K.sub O own still) hl hnb hO) ⟨R,fr,fV,hf,hfs,rfl⟩;have W2:=Walk.Wv (R:=fun w w'=>m5 still w w') (fun w=>m5.refl _ w) (fun w d w' h=>h) (fun w d=>fun _ _ _ _ h=>h) (fun _ _ _ h h'=>h.trans h') (fun w w' es h=>fun b n v hs hc=>h.2.2 b n v (.inr hs) hc) W;refine(Walk.weaken (fun g' w' hd=>?_) (W2.lax (Rt hown))).any;obtain⟨⟨ρ',A,kp,gr,hin,R',fr',sI,h1,h2,h3⟩,hst⟩:=hd;exact⟨ρ',c',fr',sI,A,kp,hst,hs,h1,h2,R',h3⟩
section
variable {K:Ctx}{ρ ρ':Env}{w w':World}
theorem k6{a:Addr}{v:Value}(hc:w.cell? a=some v):a.block<w.heap.size:=by
 rcases Nat.lt_or_ge a.block w.heap.size with h'|h'
 ·exact h'
 ·simp[World.cell?,Array.getElem?_eq_none h']at hc
end
theorem rE{K:Ctx}{ρ:Env}{w:World}{O:dH}{own:Nat->Prop}{still:Nat->Nat->Prop}{hp:List (Nat×bO)}{nb fJ:Nat}(h1:∀p∈hp,∃o,w.heap[ρ.b p.1]?=some o∧p.2.is K.P ρ o)(h2:∀p∈hp,own (ρ.b p.1))(h3:(hp.map fun p=>ρ.b p.1).Nodup)(h4:∀p∈hp,∀n,(K.still (ρ.b p.1) n∨still (ρ.b p.1) n)->p.2.kY K.P ρ n)
 (F:N5 (K.sub O own still) O ρ w)(hnew:∀n,w.heap.size≤n->own n)(Al:∀b n,K.still b n∨still b n->b<w.heap.size):Rel (K.sub O own still) ρ ⟨hp,nb,fJ⟩ w:=
 ⟨fun i b hb=>h1 (i,b) (kU hb),fun i b hb=>.inl (h2 (i,b) (kU hb)),fun i j b c hb hc e=>by have:=sM (f:=fun p:Nat×bO=>ρ.b p.1) h3 (kU hb) (kU hc) e;exact congrArg Prod.fst this,F.bs,F.is,F.mem,hnew,fun i b hb n hs=>h4 (i,b) (kU hb) n hs,Al⟩
def KV(w:World)(b off:Nat)(xs:List Value):Prop:=∀k v,xs[k]?=some v->w.cell? ⟨b,off+k,none⟩=some v
theorem KV.lt{w:World}{b off:Nat}{xs:List Value}(h:KV w b off xs){k:Nat}{v:Value}(hk:xs[k]?=some v):b<w.heap.size:=k6 (h k v hk)
section
variable {P:Program}{ρ:Env}
theorem KW{lk:Bool}{s:Nat}{n c:IE}{fs:List (IE×AV)}{e:TypeId}{i:TypeInfo}{arr:Array Value}{xs rest:List Value}(hx:arr.toList=xs++rest)(hi:P.info? e=some i)(hv:ρ.v s=.agg xs.toArray)(hn:xs.length=(n.ev ρ).toNat*i.size)(hf:∀p∈fs,xs[(p.1.ev ρ).toNat]?=some (p.2.ev ρ))(hc:arr.size=(c.ev ρ).toNat*i.size):
  (bO.pre lk s n fs [] [] e c).is P ρ (.cells arr e (0,0)):=
 .inl ⟨arr,rfl,xs.toArray,rest,i,⟨hv,hi,by simpa using hn,fun p hp=>by simpa using hf p hp,fun p hp=>by cases hp⟩,by simpa[wrote,AV.evs] using hx,hc⟩
end
structure lf(P:Program)(w:World)(e L:Nat)(xs:List Value)(cap:Nat):Prop where
 ex:∃arr rest i,w.heap[L]?=some (.cells arr e (0,0))∧P.info? e=some i∧arr.toList=xs++rest∧arr.size=cap*i.size
theorem lf.arr{P:Program}{w:World}{e L:Nat}{xs:List Value}{cap:Nat}(h:lf P w e L xs cap):KV w L 0 xs:=fun k v hk=>by obtain⟨arr,rest,i,h1,h2,h3,h4⟩:=h.ex;rw[jm h1,aG,<-bn,h3,aV (aq.1 hk).1];exact hk
theorem lf.lt{P:Program}{w:World}{e L:Nat}{xs:List Value}{cap:Nat}(h:lf P w e L xs cap):L<w.heap.size:=by obtain⟨arr,rest,i,h1,_⟩:=h.ex;exact jx h1
theorem lf.keep{P:Program}{w w':World}{e L:Nat}{xs:List Value}{cap:Nat}(h:lf P w e L xs cap){own:Nat->Prop}(kp:bS own w w')(hb:¬own L):lf P w' e L xs cap:=by obtain⟨arr,rest,i,h1,h2⟩:=h.ex;exact⟨arr,rest,i,by rw[kp.heap L hb];exact h1,h2⟩
theorem lf.is{P:Program}{w:World}{e L:Nat}{xs:List Value}{cap:Nat}(h:lf P w e L xs cap){ρ:Env}{lk:Bool}{s:Nat}{n c:IE}{fs:List (IE×AV)}(hv:ρ.v s=.agg xs.toArray)(hn:∀i,P.info? e=some i->xs.length=(n.ev ρ).toNat*i.size)(hf:∀p∈fs,xs[(p.1.ev ρ).toNat]?=some (p.2.ev ρ))(hc:(c.ev ρ).toNat=cap):
  ∃o,w.heap[L]?=some o∧(bO.pre lk s n fs [] [] e c).is P ρ o:=by
 obtain⟨arr,rest,i,h1,h2,h3,h4⟩:=h.ex;exact⟨_,h1,KW h3 h2 hv (hn i h2) hf (by rw[hc];exact h4)⟩
def Env.set(ρ:Env)(y:Nat)(v:Value)(bt:Option Nat×List Deferred):Env:={ρ with v:=fun n=>if n=y then v else ρ.v n,bt:=bt}
section
variable {K:Ctx}{D l:Nat}
structure Lp(w:World)(D l:Nat)(r:Loop):Prop where
 loop:w.heap[l]?=some (.loop r)
 dfr:w.heap[D]?=some (.deferred (some []))
theorem Lp.drawn{w:World}{r:Loop}(h:Lp w D l r)(d:Nat):Lp (cx w d) D l r:=⟨h.1,h.2⟩
end
noncomputable def kA(fr:bR)(live:List Nat):Seen:=⟨fr.fn,fr.nt,fr.todo,fr.defers,fr.mode,fr.kind,[],[],live.map fun n=>fr.tmps.get n⟩
noncomputable def N6(r:M dU)(live:List Nat)(BV:FuncId->List Nat):Option (Seen×List Seen):=
 match r with
 |.ok ⟨cur,callers,h⟩=>some (t_ ⟨cur,[],h⟩ live,callers.map fun fr=>kA fr (BV fr.fn))
 |.error _=>none
noncomputable def Seen.under(V:Seen)(cl:List bR):Seen:=⟨V.fn,V.nt,V.todo,V.defers,V.mode,V.kind,cl,V.hp,V.vals⟩
theorem N7{r:M dU}{live:List Nat}{BV:FuncId->List Nat}{V:Seen}{Vs:List Seen}(h:N6 r live BV=some (V,Vs)):∃cl,see r live=some (V.under cl)∧cl.map (fun fr=>kA fr (BV fr.fn))=Vs:=by
 cases r with
 |error e=>cases h
 |ok c=>obtain⟨cur,cl,hh⟩:=c;have h':(t_ ⟨cur,[],hh⟩ live,cl.map fun fr=>kA fr (BV fr.fn))=(V,Vs):=au h;obtain⟨h1,h2⟩:=Prod.mk.inj h';subst h1;exact⟨cl,rfl,h2⟩
end Go.Proofs.YtmobbajggkjpgaaGreat.SX
namespace Go.Proofs.YtmobbajggkjpgaaGreat.SX
open Go.Conc
open Go.ConcN (upd upd_ne upd_same)
def ChanAt(w:World)(b:Nat):Prop:=∃k,w.heap[b]?=some (.chan 0 #[] false k k false)
theorem ChanAt.keep{w w':World}{b:Nat}(h:ChanAt w b){own:Nat->Prop}(kp:bS own w w')(hb:¬own b):ChanAt w' b:=by obtain⟨k,hk⟩:=h;exact⟨k,by rw[kp.heap b hb];exact hk⟩
theorem ChanAt.lt{w:World}{b:Nat}(h:ChanAt w b):b<w.heap.size:=by obtain⟨k,hk⟩:=h;exact jx hk
end Go.Proofs.YtmobbajggkjpgaaGreat.SX
namespace Go.Proofs.YtmobbajggkjpgaaGreat.SX
open Go.Conc
open _root_.List renaming mem_cons->aj,map_cons->aK,map_congr_left->a_,mem_map->bq
open _root_.Nat renaming zero_add->aG,eq_of_beq_eq_true->aH
open _root_.Array renaming getElem?_eq_getElem->aO,getD_eq_getD_getElem?->aX,getElem?_toList->bn
def jL(w:World)(b:Nat)(cs:List Value)(e:TypeId):Prop:=∃arr,w.heap[b]?=some (.cells arr e (0,0))∧arr.toList=cs
def Ty(w:World)(b:Nat)(e:TypeId):Prop:=∃arr f,w.heap[b]?=some (.cells arr e f)
section
variable {w w':World}{b b':Nat}{cs cs':List Value}{e e':TypeId}{own:Nat->Prop}
theorem jL.keep(h:jL w b cs e)(kp:bS own w w')(hb:¬own b):jL w' b cs e:=by obtain⟨arr,h1,h2⟩:=h;exact⟨arr,by rw[kp.heap b hb];exact h1,h2⟩
theorem jL.ty(h:jL w b cs e):Ty w b e:=by obtain⟨arr,h1,_⟩:=h;exact⟨arr,_,h1⟩
theorem jL.lt(h:jL w b cs e):b<w.heap.size:=by obtain⟨arr,h1,_⟩:=h;exact jx h1
theorem Ty.lt(h:Ty w b e):b<w.heap.size:=by obtain⟨arr,f,h1⟩:=h;exact jx h1
theorem jL.cell(h:jL w b cs e){n:Nat}{v:Value}(hn:cs[n]?=some v):w.cell? ⟨b,n,none⟩=some v:=by obtain⟨arr,h1,h2⟩:=h;rw[jm h1,<-bn,h2];exact hn
theorem lf.ty{P:Program}{xs:List Value}{c:Nat}(h:lf P w e b xs c):Ty w b e:=by obtain⟨arr,rest,i,h1,_⟩:=h.ex;exact⟨arr,_,h1⟩
theorem jL.is{P:Program}{ρ:Env}{l:List AV}(h:jL w b (AV.evs ρ l) e):∃o,w.heap[b]?=some o∧(bO.cells l e).is P ρ o:=by obtain⟨arr,h1,h2⟩:=h;exact⟨_,h1,.inl ⟨arr,rfl,h2⟩⟩
theorem jL.qQ{P:Program}{ρ:Env}{l:List AV}{ls:List Nat}(h:jL w b (AV.evs ρ l) e):∃o,w.heap[b]?=some o∧(bO.gi l e ls).is P ρ o:=by obtain⟨arr,h1,h2⟩:=h;exact⟨_,h1,.inl ⟨arr,rfl,h2⟩⟩
end
def qG(w:World)(b:Nat)(es:List (Value×Value)):Prop:=∃arr nu,w.heap[b]?=some (.map arr nu)∧arr.toList.map (fun e=>(e.key,e.val))=es
section
variable {w w':World}{b b':Nat}{es:List (Value×Value)}{own:Nat->Prop}
theorem qG.keep(h:qG w b es)(kp:bS own w w')(hb:¬own b):qG w' b es:=by obtain⟨arr,nu,h1,h2⟩:=h;exact⟨arr,nu,by rw[kp.heap b hb];exact h1,h2⟩
theorem qG.lt(h:qG w b es):b<w.heap.size:=by obtain⟨arr,nu,h1,h2⟩:=h;exact jx h1
end
inductive cu where
 |obj(e:TypeId)(cs:List Value)
 |vec(e:TypeId)(cap:Nat)(xs:List Value)
 |map(es:List (Value×Value))
 |chan
def cu.at(P:Program)(w:World)(b:Nat):cu->Prop
 |.obj e cs=>jL w b cs e
 |.vec e cap xs=>lf P w e b xs cap
 |.map es=>qG w b es
 |.chan=>ChanAt w b
def cu.cell:cu->Nat->Option Value
 |.obj _ cs,n=>cs[n]?
 |.vec _ _ xs,n=>xs[n]?
 |_,_=>none
section
variable {P:Program}{w w':World}{b:Nat}{k:cu}{own:Nat->Prop}
theorem cu.qh(h:k.at P w b)(kp:bS own w w')(hb:¬own b):k.at P w' b:=by
 cases k with
 |obj e cs=>exact jL.keep h kp hb
 |vec e cap xs=>exact lf.keep h kp hb
 |map es=>exact qG.keep h kp hb
 |chan=>exact ChanAt.keep h kp hb
theorem cu.jW(h:k.at P w b):b<w.heap.size:=by
 cases k with
 |obj e cs=>exact jL.lt h
 |vec e cap xs=>exact lf.lt h
 |map es=>exact qG.lt h
 |chan=>exact ChanAt.lt h
theorem cu.cR(h:k.at P w b){n:Nat}{v:Value}(hn:k.cell n=some v):w.cell? ⟨b,n,none⟩=some v:=by
 cases k with
 |obj e cs=>exact jL.cell h hn
 |vec e cap xs=>have:=lf.arr h n v hn;rwa[aG]at this
 |map es=>cases hn
 |chan=>cases hn
end
def BW(P:Program)(ρ:Env):bO->cu->Prop
 |.cells l e,.obj e' cs=>e=e'∧AV.evs ρ l=cs
 |.gi l e _,.obj e' cs=>e=e'∧AV.evs ρ l=cs
 |.pre _ s n fs [] [] e c,.vec e' cap xs=>e=e'∧ρ.v s=.agg xs.toArray∧(∀i,P.info? e=some i->xs.length=(n.ev ρ).toNat*i.size)∧(∀p∈fs,xs[(p.1.ev ρ).toNat]?=some (p.2.ev ρ))∧(c.ev ρ).toNat=cap
 |.map l,.map es=>es=l.map fun p=>(p.1.ev ρ,p.2.ev ρ)
 |.jA s n fs ws,.map es=>∃E,ρ.v s=JW E∧E.length=(n.ev ρ).toNat∧es=E++ws.map (fun p=>(p.1.ev ρ,p.2.ev ρ))∧∀p∈fs,r8 ρ E p.1 p.2
 |_,_=>False
theorem Ru{P:Program}{w:World}{b:Nat}{k:cu}{ρ:Env}{a:bO}(h:k.at P w b)(ha:BW P ρ a k):∃o,w.heap[b]?=some o∧a.is P ρ o:=by
 unfold BW at ha;split at ha
 ·obtain⟨rfl,rfl⟩:=ha;exact jL.is h
 ·obtain⟨rfl,rfl⟩:=ha;exact jL.qQ h
 ·obtain⟨rfl,h1,h2,h3,h4⟩:=ha;exact lf.is h h1 h2 h3 h4
 ·subst ha;obtain⟨arr,nu,h1,h2⟩:=h;exact⟨_,h1,.inr ⟨arr,nu,rfl,h2⟩⟩
 ·obtain⟨E,h1,h2,rfl,h4⟩:=ha;obtain⟨arr,nu,h5,h6⟩:=h;exact⟨_,h5,.inr ⟨arr,nu,E,rfl,h1,h2,h6,h4⟩⟩
 ·exact ha.elim
def zn:Value->List Value
 |.agg a=>a.toList
 |_=>[]
def Rv(v:Value):List (Value×Value):=(zn v).map fun p=>((zn p).getD 0 undef,(zn p).getD 1 undef)
theorem KX(E:List (Value×Value)):Rv (JW E)=E:=by
 unfold Rv JW zn;simp only[List.map_map]
 conv=>rhs;rw[<-List.map_id E]
 refine a_ fun p hp=>?_;rfl
def FV(ρ:Env):bO->cu
 |.cells l e=>.obj e (AV.evs ρ l)
 |.gi l e _=>.obj e (AV.evs ρ l)
 |.row l e c=>.vec e (c.ev ρ).toNat (AV.evs ρ l)
 |.pre _ s _ _ ws cs e c=>.vec e (c.ev ρ).toNat (wrote ρ (zn (ρ.v s)) ws++AV.evs ρ cs)
 |.map l=>.map (l.map fun p=>(p.1.ev ρ,p.2.ev ρ))
 |.jA s _ _ ws=>.map (Rv (ρ.v s)++ws.map fun p=>(p.1.ev ρ,p.2.ev ρ))
 |.chan=>.chan
theorem Rx{P:Program}{w:World}{b:Nat}{ρ:Env}{a:bO}{o:Obj}(ho:w.heap[b]?=some o)(h:a.is P ρ o):(FV ρ a).at P w b:=by
 rcases h with⟨arr,rfl,hf⟩|h
 ·cases a with
  |cells l e=>exact⟨arr,ho,hf⟩
  |gi l e ls=>exact⟨arr,ho,hf⟩
  |row l e c=>obtain⟨rest,i,h1,h2,h3⟩:=hf;exact⟨arr,rest,i,ho,h2,h1,h3⟩
  |pre lk s n fs ws cs e c=>obtain⟨pre,rest,i,h1,h2,h3⟩:=hf;refine⟨arr,rest,i,ho,h1.info,?_,h3⟩;rw[h1.val,h2];simp[zn]
  |map l=>exact hf.elim
  |jA s n fs ws=>exact hf.elim
  |chan=>exact hf.elim
 ·cases a with
  |map l=>obtain⟨arr,nu,rfl,h2⟩:=h;exact⟨arr,nu,ho,h2⟩
  |jA s n fs ws=>obtain⟨arr,nu,E,rfl,h2,h3,h4,h5⟩:=h;refine⟨arr,nu,ho,?_⟩;rw[h4,h2,KX]
  |chan=>obtain⟨n,rfl⟩:=h;exact⟨n,ho⟩
  |_=>exact h.elim
structure Dk(P:Program)(fn:FuncId)(nt:Nat)(todo:List Item)(ds:List Deferred)(kind:CallKind)(lv:List (Nat×Value))(fr:Frame):Prop where
 ex:∃tm,fr=(wj fn kind).at ⟨tm,ds⟩ todo∧tm.size=nt∧∀p∈lv,tm.getD p.1 undef=p.2
 le:nt≤60000
 fn:∃f,P.funcs[fn]?=some f
def Ry(fr:Frame)(n:Nat):Value:=fr.tmps.getD n undef
def told(ρ:Env)(lv:List (Nat×AV)):List (Nat×Value):=lv.map fun p=>(p.1,p.2.ev ρ)
section
variable {P:Program}{ρ:Env}{fn:FuncId}{nt:Nat}{todo:List Item}{ds:List Deferred}{kind:CallKind}{lv:List (Nat×Value)}{fr:Frame}
theorem Dk.sub(h:Dk P fn nt todo ds kind lv fr){i_:List (Nat×Value)}(hs:∀p∈i_,p∈lv):Dk P fn nt todo ds kind i_ fr:=by obtain⟨⟨tm,h1,h2,h3⟩,h4,h5⟩:=h;exact⟨⟨tm,h1,h2,fun p hp=>h3 p (hs p hp)⟩,h4,h5⟩
theorem ua{tm:Array Value}(hsz:tm.size=nt)(hle:nt≤60000){lA:List (Nat×AV)}(h:∀p∈told ρ lA,tm.getD p.1 undef=p.2):oR ρ nt (dz nt (fun n=>tm.getD n undef) lA) tm:=by
 refine⟨hsz,hle,fun n hn=>?_,fun n hn=>?_⟩
 ·rw[wX hle,if_pos hn];have hg:tm[n]?=some (tm.getD n undef):=by
   rw[aX];rw[aO (by omega)];rfl
  rw[hg];cases e:look (fun a b=>Nat.beq a b) n lA with
  |none=>simp[AV.ev]
  |some a=>obtain⟨x,hx,he⟩:=iX e;obtain rfl:=aH he;have:=h (n,a.ev ρ) (bq.2 ⟨(n,a),hx,rfl⟩);dsimp only at this;rw[this];rfl
 ·rw[wX hle,if_neg (by omega)]
theorem Dk.rel(h:Dk P fn nt todo ds kind lv fr)(hk:iC kind)(lA:List (Nat×AV))(hl:told ρ lA=lv){dA:List AD}(hd:dA.map (AD.ev ρ)=ds):j5 P ρ ⟨fn,nt,dz nt (Ry fr) lA,todo,dA,.run,kind⟩ fr:=by obtain⟨⟨tm,rfl,h2,h3⟩,h4,h5⟩:=h;subst hl;refine⟨tm,todo,⟨ua h2 h4 h3,.inl hk,fun _=>rfl,h5⟩,?_⟩;unfold dR;dsimp only;rw[wo hk,hd];rfl
theorem BX{t:TT}:∀{live:List Nat} {p:Nat×Value},p∈live.zip (AV.evs ρ (live.map fun n=>t.get n))->p.2=(t.get p.1).ev ρ
 |[],p,h=>by cases h
 |n::l,p,h=>by
  simp only[aK,AV.evs,List.zip_cons_cons,aj]at h;rcases h with rfl|h
  ·rfl
  ·exact BX h
theorem Dk.of{a:bR}{live:List Nat}{vals:List AV}{dA:List AD}(h:j5 P ρ a fr)(s:kA a live=⟨fn,nt,todo,dA,.run,kind,[],[],vals⟩)(hk:iC kind):Dk P fn nt todo (dA.map (AD.ev ρ)) kind (live.zip (AV.evs ρ vals)) fr:=by
 obtain⟨fn',nt',t,todo',ds',mode,kind'⟩:=a;simp only[kA,Seen.mk.injEq]at s;obtain⟨rfl,rfl,rfl,rfl,rfl,rfl,_,_,rfl⟩:=s;obtain⟨tm,td,i,rfl⟩:=h;refine⟨⟨tm,?_,i.tmps.size,fun p hp=>?_⟩,i.tmps.le,i.fn⟩
 ·have ht:td=todo':=i.todo rfl;unfold dR;dsimp only;rw[wo hk,ht];rfl
 ·rw[BX hp];exact i.tmps.getD p.1
end
end Go.Proofs.YtmobbajggkjpgaaGreat.SX
namespace Go.Proofs.YtmobbajggkjpgaaGreat
open Go.Proofs.YtmobbajggkjpgaaGreat.SX Go.Conc
open _root_.List renaming mem_cons_of_mem->aa,mem_singleton->ah,mem_cons_self->ai,mem_cons->aj,length_append->ak,getElem?_eq_some_iff->aq,not_mem_nil->az,length_cons->aC,all_eq_true->aD,map_cons->aK,drop_eq_nil_iff->aU,mem_filter->aW,mem_map->bq,eq_nil_of_length_eq_zero->bw
open _root_.Bool renaming and_eq_true->an
open _root_.Option.some renaming inj->au
open _root_.Option renaming map_some->av
open _root_.Nat renaming le_refl->ax,le_trans->aA,zero_add->aG,eq_of_beq_eq_true->aH
open _root_.Array renaming getElem?_eq_getElem->aO,getD_eq_getD_getElem?->aX
noncomputable def OO(bs:List (BE×Bool))(mem:List (AA×AV)):dH:={bs:=bs,mem:=mem,fns:=fns,ext:=ext}
noncomputable abbrev XX(bs:List (BE×Bool))(mem:List (AA×AV)):Ext:=ext? Tryz.prog (OO bs mem) Nu
noncomputable def Rz(bs:List (BE×Bool))(mem:List (AA×AV))(n:Nat)(ks:List Nat)(c:dU):M dU:=chunkTo? Tryz.prog (OO bs mem) (XX bs mem) JQ 4000 n ks c
noncomputable def cfg(cur:bR)(callers:List bR)(hp:List (Nat×bO)):dU:=⟨cur,callers,⟨hp,100,5192296858534827628530496329220096⟩⟩
noncomputable def KZ(base:Nat):Ctx:=⟨Tryz.prog,OO [] [],fun n=>base≤n,fun _=>True,True,fun _ _=>False⟩
theorem vk(base:Nat):(KZ base).Good:=⟨fun _ _ _=>trivial,fun _ _ _ _=>trivial,fun _ _ _ h=>h.elim,fun _ _=>trivial,trivial,fun _ _=>trivial,fun _ _ _ _=>trivial⟩
abbrev Go1(base:Nat)(g:Goroutine)(w:World)(Q:Goroutine->World->Prop):Prop:=Walk Tryz.prog true (DK (KZ base)) Q 0 g w
theorem FW{α:Type}:∀{l:List (Nat×α)} {i:Nat} {b:α},(l.map (·.1)).Nodup->(i,b)∈l->Go.Proofs.YtmobbajggkjpgaaGreat.SX.look (fun a b=>Nat.beq a b) i l=some b
 |p::l,i,b,h,hm=>by
  rw[aK,List.nodup_cons]at h;have e1:Go.Proofs.YtmobbajggkjpgaaGreat.SX.look (fun a b=>Nat.beq a b) i (p::l)=Bool.rec (Go.Proofs.YtmobbajggkjpgaaGreat.SX.look (fun a b=>Nat.beq a b) i l) (some p.2) (Nat.beq i p.1):=rfl;rw[e1];rcases aj.1 hm with e|hm
  ·subst e;have:Nat.beq i i=true:=Nat.beq_refl i;rw[this]
  ·have:Nat.beq i p.1=false:=by
    cases e:Nat.beq i p.1 with
    |false=>rfl
    |true=>have:=aH e;exact absurd (bq.2 ⟨_,hm,this⟩) h.1
   rw[this];exact FW h.2 hm
abbrev abV:=Nat×Nat
abbrev Lay:=abV->Option (Nat×cu)
abbrev FA:=Dk Tryz.prog
def PV:gK->Bool
 |.run=>true
 |_=>false
def FX:CallKind->Bool
 |.normal=>true
 |.deferred=>true
 |_=>false
theorem KY{k:CallKind}(h:FX k=true):iC k:=by cases k<;>first|exact .inl rfl|exact .inr rfl|cases h
def BY(V:Seen):Bool:=PV V.mode&&FX V.kind
section
variable {base:Nat}{W0 w:World}{L:Lay}{main:Bool}
theorem iz{w w':World}{own:Nat->Prop}(kp:bS own w w'){a:Addr}{v:Value}(h:w.cell? a=some v)(hb:¬own a.block):w'.cell? a=some v:=by unfold World.cell? at h⊢;rw[kp.heap _ hb];exact h
end
def Goes(g:Goroutine)(w:World)(Q:Goroutine->World->Prop):Prop:=∃g' w',Steps Tryz.prog (qE g w) (qE g' w')∧Q g' w'
abbrev bA(w w':World):Prop:=bS (fun n=>w.heap.size≤n) w w'
def dS(f:FuncId)(args:Array Value)(w:World)(Q:Value->World->Prop):Prop:=Calls Tryz.prog f args w fun e w'=>∃v,e=.returned v∧Q v w'
section
variable {g:Goroutine}{w:World}{Q R:Goroutine->World->Prop}
theorem Goes.here(h:Q g w):Goes g w Q:=⟨g,w,.refl _ _,h⟩
theorem Goes.trans(h:Goes g w Q)(k:∀g' w',Q g' w'->Goes g' w' R):Goes g w R:=by obtain⟨g1,w1,s1,q1⟩:=h;obtain⟨g2,w2,s2,q2⟩:=k _ _ q1;exact⟨g2,w2,s1.trans s2,q2⟩
theorem Goes.mono(h:Goes g w Q)(k:∀g' w',Q g' w'->R g' w'):Goes g w R:=by obtain⟨g1,w1,s1,q1⟩:=h;exact⟨g1,w1,s1,k _ _ q1⟩
theorem Goes.of{base:Nat}(h:Go1 base g w Q):Goes g w Q:=Eg h
end
theorem bA.refl(w:World):bA w w:=bS.refl _ _
theorem bA.trans{w w1 w2:World}(h:bA w w1)(h2:bA w1 w2):bA w w2:=bS.trans h (h2.mono fun n hn=>aA h.size hn)
theorem bA.cell{w w':World}(h:bA w w'){a:Addr}{v:Value}(hc:w.cell? a=some v):w'.cell? a=some v:=iz h hc fun hh=>by have:=k6 hc;omega
theorem dS.mono{f:FuncId}{args:Array Value}{w:World}{Q R:Value->World->Prop}(h:dS f args w Q)(k:∀v w',Q v w'->R v w'):dS f args w R:=by intro cs;obtain⟨e,w',fr,⟨v,h1,h2⟩,h3⟩:=h cs;exact⟨e,w',fr,⟨v,h1,k _ _ h2⟩,h3⟩
noncomputable def hN:AH:=⟨[],100,5192296858534827628530496329220096⟩
noncomputable def VE(bs:List (BE×Bool))(mem:List (AA×AV))(t:TT)(ops:Array Oper)(i:Nat):M (AN×AH):=match ops[i]? with
 |some o=>op? Tryz.prog (OO bs mem) (XX bs mem) hN (kP t) o
 |none=>.error "no operation"
noncomputable def wY(bs:List (BE×Bool))(mem:List (AA×AV))(t:TT)(ops:Array Oper)(i:Nat):M Bool:=match ops[i]? with
 |some o=>gz (OO bs mem) ops t o
 |none=>.error "no operation"
noncomputable def FY(ops:Array Oper)(i:Nat):Option Nat:=(ops[i]?).bind (·.dst)
noncomputable def Ej(bs:List (BE×Bool))(mem:List (AA×AV))(t:TT):Bool:=rC 100 ⟨⟨0,0,t,[],[],.run,.normal⟩,[],hN⟩&&(OO bs mem).low 100
theorem K1{tm:Array Value}{d n:Nat}{v:Value}:(tm.setIfInBounds d v).getD n undef=if n=d∧d<tm.size then v else tm.getD n undef:=by
 rw[aX,aX,Array.getElem?_setIfInBounds];by_cases h:d=n
 ·subst h;by_cases h2:d<tm.size
  ·simp[h2]
  ·simp[h2]
 ·have:¬(n=d):=fun e=>h e.symm;simp[h,this]
abbrev fL(d:Nat)(v:Value)(lv:List (Nat×Value)):List (Nat×Value):=(d,v)::lv.filter fun p=>!(p.1==d)
section
variable {w:World}{cs:List Frame}{fr:Frame}{fn nt i d:Nat}{ops:Array Oper}{l:List Nat}{k:List Item}{ds:List Deferred}{kind:CallKind}{lv:List (Nat×Value)}{lA:List (Nat×AV)}{bs:List (BE×Bool)}{mem:List (AA×AV)}{ρ:Env}
theorem Ek{tm:Array Value}{v:Value}(h2:tm.size=nt)(h3:∀p∈lv,tm.getD p.1 undef=p.2)(h4:nt≤60000)(h5:∃f,Tryz.prog.funcs[fn]?=some f)(hdn:d<nt):
  FA fn nt (.inRegion ops l::k) ds kind (fL d v lv) ((wj fn kind).at ((⟨tm,ds⟩:Act).put (some d) v) (.inRegion ops l::k)):=by
 refine⟨⟨tm.setIfInBounds d v,rfl,by rw[Array.size_setIfInBounds];exact h2,fun p hp=>?_⟩,h4,h5⟩;rw[K1];rcases aj.1 hp with rfl|hp
 ·rw[if_pos ⟨rfl,by omega⟩]
 ·obtain⟨q1,q2⟩:=aW.1 hp;have:¬(p.1=d):=by simpa using q2
  rw[if_neg fun e=>this e.1];exact h3 p q1
theorem Am{tm:Array Value}(h2:tm.size=nt)(h4:nt≤60000)(ht:∀p∈told ρ lA,tm.getD p.1 undef=p.2){b:Bool}(hw:wY bs mem (dz nt (fun n=>tm.getD n undef) lA) ops i=.ok b)(Al:Ej bs mem (dz nt (fun n=>tm.getD n undef) lA)=true)
 (hb:∀p∈bs,p.1.ev ρ=p.2)(hm:∀p∈mem,w.cell? (p.1.ev ρ)=some (p.2.ev ρ)):
  ∃o,ops[i]?=some o∧Region.wanted o (yielded ops tm)=b∧∀{n:AN},VE bs mem (dz nt (fun n=>tm.getD n undef) lA) ops i=.ok (n,hN)->(∀v,n≠.panic v)->∃nx w' ρ',(execOp (⟨tm,ds⟩:Act).eval o).run Tryz.prog w=.ok nx w'∧bA w w'∧cv (Below 100) ρ ρ'∧n.is ρ' nx:=by
 have T:=ua (ρ:=ρ) h2 h4 ht;unfold wY at hw;unfold VE;cases ho:ops[i]? with
 |none=>rw[ho]at hw;cases hw
 |some o=>
  rw[ho]at hw;simp only[Ej,an]at Al;let K:=(KZ w.heap.size).sub (OO bs mem) (fun n=>w.heap.size≤n) fun _ _=>False;have hown:∀n,w.heap.size≤n->(KZ w.heap.size).own n:=fun n hn=>hn;have VF:K.Good:=sN (vk w.heap.size) hown;have R:Rel K ρ hN w:=rE (nofun) (nofun) List.nodup_nil (nofun) ⟨hb,(nofun),fun p hp=>⟨fun hh=>by have:=k6 (hm p hp);have:w.heap.size≤(p.1.ev ρ).block:=hh;omega,hm p hp,fun s=>⟨trivial,fun b n s e=>by cases e⟩⟩⟩ (fun n hn=>hn) fun b n h=>h.elim False.elim False.elim
  have I:=zl (K:=K) (c:=⟨⟨0,0,dz nt (fun n=>tm.getD n undef) lA,[],[],.run,.normal⟩,[],hN⟩) Al.1 rfl Al.2;refine⟨o,rfl,rm (K:=K) R T hw,fun{n} he hn=>?_⟩;have N:=Km (K:=K) VF ⟨KT,zf,mixed⟩ (KS VF (.inl trivial) zg) R I.ids (Bw I.cur.tmps) he;have hev:(⟨tm,ds⟩:Act).eval=fun x=>(kP (dz nt (fun n=>tm.getD n undef) lA) x).ev ρ:=funext fun x=>sH T _ x;rw[hev];have W:=N.run (E:=fun _ _=>False) (Q:=fun nx w'=>∃ρ',bA w w'∧cv (Below 100) ρ ρ'∧n.is ρ' nx) (fun nx w' ⟨ρ',a1,a2,a3,a4⟩=>⟨ρ',a3,a1,a4⟩) (fun v hv=>(hn v hv).elim);have q1:((execOp (fun x=>(kP (dz nt (fun n=>tm.getD n undef) lA) x).ev ρ) o).run Tryz.prog w).goes (fun nx w'=>∃ρ',bA w w'∧cv (Below 100) ρ ρ'∧n.is ρ' nx) (fun _ _=>False):=(lZ W).1;generalize(execOp (fun x=>(kP (dz nt (fun n=>tm.getD n undef) lA) x).ev ρ) o).run Tryz.prog w=r at q1;cases r with
  |ok nx w'=>obtain⟨ρ',a1,a2,a3⟩:=q1;exact⟨nx,w',ρ',rfl,a1,a2,a3⟩
  |halt x w'=>cases x<;>exact q1.elim
theorem BZ(hf:FA fn nt (.inRegion ops (i::l)::k) ds kind lv fr)(hk:iC kind){a:AV}(hl:∀p∈told ρ lA,p∈lv)(hw:∀st,wY bs mem (dz nt st lA) ops i=.ok true)(he:∀st,VE bs mem (dz nt st lA) ops i=.ok (.value a,hN))(Al:∀st,Ej bs mem (dz nt st lA)=true)
 (hb:∀p∈bs,p.1.ev ρ=p.2)(hm:∀p∈mem,w.cell? (p.1.ev ρ)=some (p.2.ev ρ))(hd:FY ops i=some d)(hdn:d<nt)(ha:AV.low 100 a=true):
  Goes (G fr cs) w fun g' w'=>∃fr',g'=G fr' cs∧bA w w'∧FA fn nt (.inRegion ops l::k) ds kind (fL d (a.ev ρ) lv) fr':=by
 obtain⟨⟨tm,rfl,h2,h3⟩,h4,h5⟩:=hf;obtain⟨o,ho,AX,run⟩:=Am (ds:=ds) (w:=w) h2 h4 (fun p hp=>h3 p (hl p hp)) (hw _) (Al _) hb hm;obtain⟨nx,w',ρ',r1,bT,Ag,e⟩:=run (he _) (fun v h=>by cases h);have e:nx=.value (a.ev ρ'):=e;rw[AV.bV Ag a (AV.cN a ha)]at e;subst e;have hg:=stepG_op (P:=Tryz.prog) (b:=wj fn kind) (k:=k) (cs:=cs) (w:=w) (rest:=l) (a:=⟨tm,ds⟩) ho AX;have s:step Tryz.prog (lone ((wj fn kind).at ⟨tm,ds⟩ (.inRegion ops (i::l)::k)) cs w)=.next (lone ((wj fn kind).at ((⟨tm,ds⟩:Act).put ((ops[i]?).bind (·.dst)) (a.ev ρ)) (.inRegion ops l::k)) cs w'):=by refine step_lone_go ?_;rw[hg,<-Frame.finish_at];simp[stepG.apply,r1]
 refine⟨_,w',.head s (.refl _ _),_,rfl,bT,?_⟩;rw[show(ops[i]?).bind (·.dst)=some d from hd];exact Ek h2 h3 h4 h5 hdn
theorem An(hf:FA fn nt (.inRegion ops (i::l)::k) ds kind lv fr){f:FuncId}{args:List AV}{Q:Value->World->Prop}(hl:∀p∈told ρ lA,p∈lv)(hw:∀st,wY bs mem (dz nt st lA) ops i=.ok true)(he:∀st,VE bs mem (dz nt st lA) ops i=.ok (.enter f args,hN))(Al:∀st,Ej bs mem (dz nt st lA)=true)
 (hb:∀p∈bs,p.1.ev ρ=p.2)(hm:∀p∈mem,w.cell? (p.1.ev ρ)=some (p.2.ev ρ))(hd:FY ops i=some d)(hdn:d<nt)(ha:AV.qq 100 args=true)(h:∀w',bA w w'->dS f (AV.evs ρ args).toArray w' Q):
  Goes (G fr cs) w fun g' w'=>∃fr' v,g'=G fr' cs∧Q v w'∧FA fn nt (.inRegion ops l::k) ds kind (fL d v lv) fr':=by
 obtain⟨⟨tm,rfl,h2,h3⟩,h4,h5⟩:=hf;obtain⟨o,ho,AX,run⟩:=Am (ds:=ds) (w:=w) h2 h4 (fun p hp=>h3 p (hl p hp)) (hw _) (Al _) hb hm;obtain⟨nx,w',ρ',r1,bT,Ag,e⟩:=run (he _) (fun v h=>by cases h);have e:nx=.enter f (AV.evs ρ' args).toArray:=e;rw[AV.fe Ag args (AV.iZ args ha)]at e;subst e;have hg:=stepG_op (P:=Tryz.prog) (b:=wj fn kind) (k:=k) (cs:=cs) (w:=w) (rest:=l) (a:=⟨tm,ds⟩) ho AX;have s:step Tryz.prog (lone ((wj fn kind).at ⟨tm,ds⟩ (.inRegion ops (i::l)::k)) cs w)=.next (lone (Frame.enter Tryz.prog f (AV.evs ρ args).toArray .normal) ((wj fn kind).at ⟨tm,ds⟩ (.inRegion ops (i::l)::k)::cs) w'):=by refine step_lone_go ?_;rw[hg];simp[stepG.apply,r1,Frame.at]
 obtain⟨en,w2,cB,⟨v,rfl,hq⟩,st,_,i_⟩:=h w' bT ((wj fn kind).at ⟨tm,ds⟩ (.inRegion ops (i::l)::k)::cs);have s2:=step_leave_returned (c:=(wj fn kind).at ⟨tm,ds⟩ (.inRegion ops (i::l)::k)) (cs:=cs) i_;rw[Frame.finish_at,show(ops[i]?).bind (·.dst)=some d from hd]at s2;exact⟨_,w2,.head s (Steps.trans st (.head s2 (.refl _ _))),_,v,rfl,hq,Ek h2 h3 h4 h5 hdn⟩
end
def cV(f:FuncId)(fr:Frame)(w:World)(v:Value):Prop:=fr.fn=f∧fr.leaving Tryz.prog w (.returned v)
theorem cF{f:FuncId}{args:Array Value}{w:World}{Q:Value->World->Prop}(h:∀cs,Goes (G (Frame.enter Tryz.prog f args .normal) cs) w fun g' w'=>∃fr' v,g'=G fr' cs∧cV f fr' w' v∧Q v w'):dS f args w Q:=by intro cs;obtain⟨g',w',st,fr',v,rfl,⟨h1,h2⟩,hq⟩:=h cs;exact⟨.returned v,w',fr',⟨v,rfl,hq⟩,st,h1,h2⟩
section
variable {w:World}{cs:List Frame}{fr:Frame}{fn nt:Nat}{k:List Item}{lv:List (Nat×Value)}{lA:List (Nat×AV)}{bs:List (BE×Bool)}{mem:List (AA×AV)}{ρ:Env}
theorem kV(hf:FA fn nt (.code .ret::k) [] .normal lv fr){a:AV}(hl:∀p∈told ρ lA,p∈lv)(he:∀st,results? Tryz.prog (OO bs mem) hN fn (dz nt st lA)=.ok a)
 (hb:∀p∈bs,p.1.ev ρ=p.2)(hm:∀p∈mem,w.cell? (p.1.ev ρ)=some (p.2.ev ρ)):
  Goes (G fr cs) w fun g' w'=>∃fr',g'=G fr' cs∧w'=w∧cV fn fr' w' (a.ev ρ):=by
 obtain⟨⟨tm,rfl,h2,h3⟩,h4,h5⟩:=hf;have T:=ua (ρ:=ρ) h2 h4 (fun p hp=>h3 p (hl p hp));let K:=(KZ w.heap.size).sub (OO bs mem) (fun n=>w.heap.size≤n) fun _ _=>False;have hown:∀n,w.heap.size≤n->(KZ w.heap.size).own n:=fun n hn=>hn;have VF:K.Good:=sN (vk w.heap.size) hown;have R:Rel K ρ hN w:=rE (nofun) (nofun) List.nodup_nil (nofun) ⟨hb,(nofun),fun p hp=>⟨fun hh=>by have:=k6 (hm p hp);have:w.heap.size≤(p.1.ev ρ).block:=hh;omega,hm p hp,fun s=>⟨trivial,fun b n s e=>by cases e⟩⟩⟩ (fun n hn=>hn) fun b n h=>h.elim False.elim False.elim
 obtain⟨f,hf,_,run⟩:=uC (K:=K) VF (he (fun n=>tm.getD n undef));have W:=run (E:=fun _ _=>False) R T (Q:=fun x w'=>x=a.ev ρ∧w'=w) ⟨rfl,rfl⟩;have q1:((results f tm).run Tryz.prog w).goes (fun x w'=>x=a.ev ρ∧w'=w) (fun _ _=>False):=(lZ W).1;refine⟨_,w,.head step_ret (.refl _ _),_,rfl,rfl,rfl,rfl,rfl,rfl,f,hf,?_⟩;show(results f tm).run Tryz.prog w=.ok (a.ev ρ) w;generalize(results f tm).run Tryz.prog w=r at q1;cases r with
 |ok x w'=>obtain⟨rfl,rfl⟩:=q1;rfl
 |halt x w'=>cases x<;>exact q1.elim
end
theorem cz{f nt:Nat}{t:TT}{body:Code}(h:bP Tryz.prog f [.bC 0] .normal=.ok ⟨f,nt,t,[.code body],[],.run,.normal⟩)(hs:kA (⟨f,nt,t,[.code body],[],.run,.normal⟩:bR) [0]=⟨f,nt,[.code body],[],.run,.normal,[],[],[.bC 0]⟩)(x:Value):
  FA f nt [.code body] [] .normal [(0,x)] (Frame.enter Tryz.prog f #[x] .normal):=by
 let ρ:Env:=bL [] [] [(0,x)];exact Dk.of (live:=[0]) (vals:=[.bC 0]) (dA:=[]) (gS (U:=fun _=>True) h (.inl rfl) ⟨trivial,trivial⟩ (ρ:=ρ)).1 hs (.inl rfl)
theorem dV{f nt:Nat}{t:TT}{body:Code}(h:bP Tryz.prog f [.bC 0,.bC 1] .normal=.ok ⟨f,nt,t,[.code body],[],.run,.normal⟩)(hs:kA (⟨f,nt,t,[.code body],[],.run,.normal⟩:bR) [0,1]=⟨f,nt,[.code body],[],.run,.normal,[],[],[.bC 0,.bC 1]⟩)(x y:Value):
  FA f nt [.code body] [] .normal [(0,x),(1,y)] (Frame.enter Tryz.prog f #[x,y] .normal):=by
 let ρ:Env:=bL [] [] [(0,x),(1,y)];exact Dk.of (live:=[0,1]) (vals:=[.bC 0,.bC 1]) (dA:=[]) (gS (U:=fun _=>True) h (.inl rfl) ⟨trivial,trivial,trivial⟩ (ρ:=ρ)).1 hs (.inl rfl)
theorem pM{f nt:Nat}{t:TT}{body:Code}(h:bP Tryz.prog f [.bC 0,.bC 1,.bC 2,.bC 3] .normal=.ok ⟨f,nt,t,[.code body],[],.run,.normal⟩)(hs:kA (⟨f,nt,t,[.code body],[],.run,.normal⟩:bR) [0,1,2,3]=⟨f,nt,[.code body],[],.run,.normal,[],[],[.bC 0,.bC 1,.bC 2,.bC 3]⟩)(x y z u:Value):
  FA f nt [.code body] [] .normal [(0,x),(1,y),(2,z),(3,u)] (Frame.enter Tryz.prog f #[x,y,z,u] .normal):=by
 let ρ:Env:=bL [] [] [(0,x),(1,y),(2,z),(3,u)];exact Dk.of (live:=[0,1,2,3]) (vals:=[.bC 0,.bC 1,.bC 2,.bC 3]) (dA:=[]) (gS (U:=fun _=>True) h (.inl rfl) ⟨trivial,trivial,trivial,trivial,trivial⟩ (ρ:=ρ)).1 hs (.inl rfl)
theorem Ao{f nt:Nat}{t:TT}{body:Code}(h:bP Tryz.prog f [] .normal=.ok ⟨f,nt,t,[.code body],[],.run,.normal⟩):
  FA f nt [.code body] [] .normal [] (Frame.enter Tryz.prog f #[] .normal):=by
 let ρ:Env:=bL [] [] [];exact Dk.of (live:=[]) (vals:=[]) (dA:=[]) (gS (U:=fun _=>True) h (.inl rfl) trivial (ρ:=ρ)).1 rfl (.inl rfl)
def lF(ρ:Env)(w:World)(pre:List (Nat×bO))(b:Nat):Prop:=w.heap.size≤b∨∃x∈pre,ρ.b x.1=b
theorem K2{w:World}{cs:List Frame}{fr:Frame}{bs:List (BE×Bool)}{mem:List (AA×AV)}{n:Nat}{ks:List Nat}{cur:bR}{live:List Nat}{V:Seen}(pre post:List (Nat×bO))
 (hv:N6 (Rz bs mem n ks (cfg cur [] pre)) live (fun _=>[])=some (V,[]))(hV:V.hp=post)(hV':BY V=true)(hl:rC 100 (cfg cur [] pre)=true)(hO:(OO bs mem).low 100=true){ρ:Env}(hf:j5 Tryz.prog ρ cur fr)
 (hb:∀p∈bs,p.1.ev ρ=p.2)(hm:∀p∈mem,w.cell? (p.1.ev ρ)=some (p.2.ev ρ)∧∀x∈pre,ρ.b x.1≠(p.1.ev ρ).block)(hpre:∀x∈pre,∃k:cu,k.at Tryz.prog w (ρ.b x.1)∧BW Tryz.prog ρ x.2 k)(iD:(pre.map fun p=>ρ.b p.1).Nodup)(abX:(post.map (·.1)).Nodup):
  Goes (G fr cs) w fun g' w'=>∃ρ' fr',g'=G fr' cs∧bS (lF ρ w pre) w w'∧cv (Below 100) ρ ρ'∧FA V.fn V.nt V.todo (V.defers.map (AD.ev ρ')) V.kind (live.zip (AV.evs ρ' V.vals)) fr'∧(∀x∈post,lF ρ w pre (ρ'.b x.1)∧(FV ρ' x.2).at Tryz.prog w' (ρ'.b x.1))∧∀x∈post,∀y∈post,ρ'.b x.1=ρ'.b y.1->x.1=y.1:=by
 obtain⟨cl,hs,hcl⟩:=N7 hv;have hown:∀b,lF ρ w pre b->(KZ 0).own b:=fun b _=>Nat.zero_le b;have VF:=sN (K:=KZ 0) (O:=OO bs mem) (own:=lF ρ w pre) (still:=fun _ _=>False) (vk 0) hown;have W:=piece (K:=KZ 0) (main:=true) (own:=lF ρ w pre) (still:=fun _ _=>False) (O:=OO bs mem) (cs:=cs) (fV:=[]) (vk 0) hown ⟨KT,zf,mixed⟩ (KS VF (.inl trivial) zg) Ii hs hl rfl hO hf trivial
  (rE (fun p hp=>by
    obtain⟨k,h1,h2⟩:=hpre p hp;exact Ru h1 h2) (fun p hp=>.inr ⟨p,hp,rfl⟩) iD (fun p hp n hn=>hn.elim False.elim False.elim) ⟨hb,(nofun),fun p hp=>⟨fun hh=>by
     have h1:=k6 (hm p hp).1;rcases hh with hh|⟨x,hx,e⟩
     ·omega
     ·exact(hm p hp).2 x hx e,(hm p hp).1,fun s=>⟨trivial,fun b n s e=>by cases e⟩⟩⟩ (fun n hn=>.inl hn) fun b n h=>h.elim False.elim False.elim)
 refine(Goes.of W).mono fun g' w' hd=>?_;obtain⟨ρ',c',fr',sI,C⟩:=hd;have nQ:c'.callers=cl:=congrArg Seen.callers C.seen;have hhp:c'.h.hp=V.hp:=congrArg Seen.hp C.seen;have N8:=C.rel;have hfr:=C.fr;have Wx:=C.fV;have sO:=C.seen;obtain⟨cur',callers',hh⟩:=c';dsimp only at nQ hhp N8 hfr Wx;subst nQ;obtain rfl:callers'=[]:=by
  cases callers' with
  |nil=>rfl
  |cons a b=>cases hcl
 obtain rfl:sI=[]:=by
  cases sI with
  |nil=>rfl
  |cons a b=>exact Wx.elim
 simp only[BY,an]at hV';have Wy:V.mode=.run:=by have:=hV'.1;cases e:V.mode<;>first|rfl|(simp[e,PV]at this)
 have hfind:∀x∈post,cE x.1 hh.hp=some x.2:=fun x hx=>by rw[hhp,hV];exact FW abX hx
 refine⟨ρ',fr',C.gor,C.keeps,C.mS,?_,fun x hx=>?_,fun x hx y hy e=>N8.inj _ _ _ _ (hfind x hx) (hfind y hy) e⟩
 ·refine Dk.of hfr ?_ (KY hV'.2);unfold Seen.under t_ at sO;unfold kA;simp only[Seen.mk.injEq]at sO⊢;exact⟨sO.1,sO.2.1,sO.2.2.1,sO.2.2.2.1,sO.2.2.2.2.1.trans Wy,sO.2.2.2.2.2.1,trivial,trivial,sO.2.2.2.2.2.2.2.2⟩
 ·obtain⟨o,h1,h2⟩:=N8.blk _ _ (hfind x hx);refine⟨?_,Rx h1 h2⟩;rcases N8.qV _ _ (hfind x hx)with h3|⟨hc,h3⟩
  ·exact h3
  ·exact(h3.elim False.elim False.elim)
def iV(n:Int):Value:=.int .i64 n
def cY(n:Int):Value:=.int .i8 n
def bI(b:Nat):Value:=.pointer (some ⟨b,0,none⟩)
def eS:Value:=.slice none 0 0
def bU(a o n c:Nat):Value:=.slice (some ⟨a,o,none⟩) n c
def v(n:Nat):IE:=.var n
noncomputable def i64(e:IE):AV:=.int .i64 e
noncomputable def i8(e:IE):AV:=.int .i8 e
noncomputable def bz(b:Nat):AV:=.ptr (some ⟨.dyn b,.lit 0⟩)
noncomputable def yB:AV:=.ptr none
noncomputable def cj:AV:=.slice none (.lit 0) (.lit 0)
noncomputable def TB:AV:=.bool (.lit true)
noncomputable def FB:AV:=.bool (.lit false)
noncomputable def ss(k:Nat):AV:=.ss (.var k)
noncomputable def noL:FuncId->List Nat:=fun _=>[]
noncomputable def VG(fn nt:Nat)(t:List Item)(l:List (Nat×AV))(st:Nat->Value):bR:=⟨fn,nt,dz nt st l,t,[],.run,.normal⟩
noncomputable def c8(f:FuncId)(args:List AV):TT:=((bP Tryz.prog f args .normal).toOption.map (·.tmps)).getD .leaf
theorem iM{x:Int}(h:-9223372036854775808≤x∧x≤9223372036854775807):IntKind.wrap .i64 x=x:=IntWalk.i64_in _ h
theorem ei{α:Type}{a:α}:[a].Nodup:=List.nodup_cons.2 ⟨az,List.nodup_nil⟩
theorem bE{w:World}{b e:Nat}{cs:List Value}(h:(cu.obj e cs).at Tryz.prog w b){i:Nat}{x:Value}(hx:cs[i]?=some x):w.cell? ⟨b,i,none⟩=some x:=jL.cell h hx
theorem bM{w w':World}{k:cu}{T:Nat}(h:k.at Tryz.prog w T)(f:bA w w'):k.at Tryz.prog w' T:=cu.qh h f fun hh=>by have:=cu.jW h;omega
def fP(k:Nat):List (Nat×Value)->Option Value
 |[]=>none
 |p::r=>bif Nat.beq p.1 k then some p.2 else fP k r
theorem cD{k:Nat}{x:Value}:∀{lv:List (Nat×Value)},fP k lv=some x->(k,x)∈lv
 |[],h=>by cases h
 |p::r,h=>by
  unfold fP at h;cases e:Nat.beq p.1 k with
  |true=>rw[e]at h;obtain rfl:p.2=x:=au h;obtain rfl:=aH e;exact ai ..
  |false=>rw[e]at h;exact aa _ (cD h)
abbrev fT(lv l:List (Nat×Value)):Prop:=l.map (fun p=>fP p.1 lv)=l.map fun p=>some p.2
theorem fT.mem{lv:List (Nat×Value)}:∀{l:List (Nat×Value)},fT lv l->∀p∈l,p∈lv
 |q::r,h,p,hp=>by
  simp only[fT,aK,List.cons.injEq]at h;rcases aj.1 hp with rfl|hp
  ·exact cD h.1
  ·exact fT.mem (l:=r) h.2 p hp
def cr(ρ:Env):List (BE×Bool)->Prop
 |[]=>True
 |p::r=>p.1.ev ρ=p.2∧cr ρ r
theorem cr.mem{ρ:Env}:∀{l:List (BE×Bool)},cr ρ l->∀p∈l,p.1.ev ρ=p.2
 |q::r,h,p,hp=>by
  rcases aj.1 hp with rfl|hp
  ·exact h.1
  ·exact cr.mem (l:=r) h.2 p hp
theorem cr.app{ρ:Env}:∀{l l':List (BE×Bool)},cr ρ l->cr ρ l'->cr ρ (l++l')
 |[],_,_,h'=>h'
 |_::_,_,h,h'=>⟨h.1,cr.app h.2 h'⟩
def cw(ρ:Env)(w:World):List (AA×AV)->Prop
 |[]=>True
 |p::r=>w.cell? (p.1.ev ρ)=some (p.2.ev ρ)∧cw ρ w r
theorem cw.mem{ρ:Env}{w:World}:∀{l:List (AA×AV)},cw ρ w l->∀p∈l,w.cell? (p.1.ev ρ)=some (p.2.ev ρ)
 |q::r,h,p,hp=>by
  rcases aj.1 hp with rfl|hp
  ·exact h.1
  ·exact cw.mem (l:=r) h.2 p hp
theorem cw.app{ρ:Env}{w:World}:∀{l l':List (AA×AV)},cw ρ w l->cw ρ w l'->cw ρ w (l++l')
 |[],_,_,h'=>h'
 |_::_,_,h,h'=>⟨h.1,cw.app h.2 h'⟩
def El(ρ:Env)(w:World):List (Nat×bO)->Prop
 |[]=>True
 |x::r=>(∃k:cu,k.at Tryz.prog w (ρ.b x.1)∧BW Tryz.prog ρ x.2 k)∧El ρ w r
theorem El.mem{ρ:Env}{w:World}:∀{l:List (Nat×bO)},El ρ w l->∀x∈l,∃k:cu,k.at Tryz.prog w (ρ.b x.1)∧BW Tryz.prog ρ x.2 k
 |q::r,h,p,hp=>by
  rcases aj.1 hp with rfl|hp
  ·exact h.1
  ·exact El.mem (l:=r) h.2 p hp
def wZ(ρ:Env)(own:Nat->Prop)(w:World):List (Nat×bO)->Prop
 |[]=>True
 |x::r=>(own (ρ.b x.1)∧(FV ρ x.2).at Tryz.prog w (ρ.b x.1))∧wZ ρ own w r
theorem wZ.of{ρ:Env}{own:Nat->Prop}{w:World}:∀{l:List (Nat×bO)},(∀x∈l,own (ρ.b x.1)∧(FV ρ x.2).at Tryz.prog w (ρ.b x.1))->wZ ρ own w l
 |[],_=>trivial
 |x::r,h=>⟨h x (ai ..),wZ.of fun y hy=>h y (aa _ hy)⟩
def cQ(ρ:Env)(I:Nat->Int)(B:Nat->Nat):Env:={ρ with i:=fun n=>bif Nat.blt n 100 then ρ.i n else I n,b:=fun n=>bif Nat.blt n 100 then ρ.b n else B n}
theorem FZ{ρ ρ':Env}(A:cv (Below 100) ρ ρ'):ρ'=cQ ρ ρ'.i ρ'.b:=by
 have hi:ρ'.i=fun n=>bif Nat.blt n 100 then ρ.i n else ρ'.i n:=funext fun n=>by
  cases e:Nat.blt n 100 with
  |true=>exact A.i n (Nat.blt_eq.mp e)
  |false=>rfl
 have hb:ρ'.b=fun n=>bif Nat.blt n 100 then ρ.b n else ρ'.b n:=funext fun n=>by
  cases e:Nat.blt n 100 with
  |true=>exact A.b n (Nat.blt_eq.mp e)
  |false=>rfl
 have h1:=A.p;have h2:=A.v;have h3:=A.bt;have h4:=A.s;obtain⟨ri,rp,rv,rb,rt,rs⟩:=ρ';obtain⟨si,sp,sv,sb,st,sts⟩:=ρ;dsimp only at h1 h2 h3 h4 hi hb;subst h1 h2 h3 h4;unfold cQ;congr 1
abbrev sA(b o n c:Nat):AV:=.slice (some ⟨.dyn b,v o⟩) (v n) (v c)
abbrev eA(b o i k j:Nat):AA:=⟨.dyn b,.plus (.tn (.plus (.tn (v o)) (.times (.tn (v i)) (.lit (Int.ofNat k))))) (.lit (Int.ofNat j))⟩
abbrev eB(b o i k:Nat):AA:=⟨.dyn b,.plus (.tn (v o)) (.times (.tn (v i)) (.lit (Int.ofNat k)))⟩
abbrev eC(b o i:Nat):AA:=⟨.dyn b,.plus (.tn (v o)) (.tn (v i))⟩
abbrev eD(b j:Nat):AA:=⟨.dyn b,.lit (Int.ofNat j)⟩
abbrev fN(i n:Nat):List (BE×Bool):=[((.cmp .lss (v i) (.tn (v n))),true),((.cmp .leq (.lit 0) (v i)),true),((.cmp .lss (v i) (.lit 0)),false),((.cmp .geq (v i) (.tn (v n))),false)]
def pdF:Nat->Nat->List Nat->List Nat
 |0,_,a=>a
 |f+1,n,a=>bif Nat.ble n 1 then a else pdF f (n / 2) (n % 2::a)
def pd(n:Nat):List Nat:=pdF 40 n []
structure Pc(fn nt:Nat)(todo:List Item)(lA:List (Nat×AV))(bs:List (BE×Bool))(mem:List (AA×AV))(pre:List (Nat×bO))(n:Nat)(ks live:List Nat)(todo':List Item)(vals:List AV)(post:List (Nat×bO)):Prop where
 run:∀st,N6 (Rz bs mem n ks (cfg (VG fn nt todo lA st) [] pre)) live noL=some (⟨fn,nt,todo',[],.run,.normal,[],post,vals⟩,[]):=by intro st;kernel_rfl
 low:∀st,rC 100 (cfg (VG fn nt todo lA st) [] pre)=true:=by intro st;kernel_rfl
 N9:(OO bs mem).low 100=true:=by kernel_rfl
 nd:(post.map (·.1)).Nodup:=by apply of_decide_eq_true;kernel_rfl
section
variable {w:World}{cs:List Frame}{fr:Frame}{fn nt n d:Nat}{todo todo':List Item}{lA:List (Nat×AV)}{lv:List (Nat×Value)}{bs:List (BE×Bool)}{mem:List (AA×AV)}{pre post:List (Nat×bO)}{ks live:List Nat}{vals:List AV}
theorem FA.only{fn nt:Nat}{t:List Item}{ds:List Deferred}{kind:CallKind}{lv l:List (Nat×Value)}{fr:Frame}(h:FA fn nt t ds kind lv fr)(hl:fT lv l):FA fn nt t ds kind l fr:=h.sub hl.mem
theorem Pc.go(P:Pc fn nt todo lA bs mem [] n ks live todo' vals post)(ρ:Env)(hf:FA fn nt todo [] .normal lv fr)(hl:fT lv (told ρ lA))(hb:cr ρ bs)(hm:cw ρ w mem):
  Goes (G fr cs) w fun g' w'=>∃I B fr',g'=G fr' cs∧bA w w'∧FA fn nt todo' [] .normal (live.zip (AV.evs (cQ ρ I B) vals)) fr'∧wZ (cQ ρ I B) (fun b=>w.heap.size≤b) w' post∧∀x∈post,∀y∈post,(cQ ρ I B).b x.1=(cQ ρ I B).b y.1->x.1=y.1:=by
 have hf':=hf.only hl;refine(K2 (ρ:=ρ) [] post (P.run (Ry fr)) rfl rfl (P.low _) P.N9 (hf'.rel (.inl rfl) lA rfl rfl) hb.mem (fun p hp=>⟨hm.mem p hp,fun x hx=>by cases hx⟩) (nofun) List.nodup_nil P.nd).mono fun g' w' hd=>?_;obtain⟨ρ',fr',rfl,kp,Ag,F,bl,inj⟩:=hd;have Wz:∀q,lF ρ w [] q->w.heap.size≤q:=fun q hq=>hq.elim id fun⟨y,hy,_⟩=>(by cases hy);have e:=FZ Ag;rw[e]at F bl inj;exact⟨_,_,fr',rfl,kp.mono Wz,F,wZ.of fun x hx=>⟨Wz _ (bl x hx).1,(bl x hx).2⟩,inj⟩
theorem Pc.B6(P:Pc fn nt todo lA bs mem pre n ks live todo' vals post)(ρ:Env)(hf:FA fn nt todo [] .normal lv fr)(hl:fT lv (told ρ lA))(hb:cr ρ bs)(hm:cw ρ w mem)(hmo:∀p∈mem,∀x∈pre,ρ.b x.1≠(p.1.ev ρ).block)(ho:El ρ w pre)(iD:(pre.map fun p=>ρ.b p.1).Nodup):
  Goes (G fr cs) w fun g' w'=>∃I B fr',g'=G fr' cs∧bS (lF ρ w pre) w w'∧FA fn nt todo' [] .normal (live.zip (AV.evs (cQ ρ I B) vals)) fr'∧wZ (cQ ρ I B) (lF ρ w pre) w' post∧∀x∈post,∀y∈post,(cQ ρ I B).b x.1=(cQ ρ I B).b y.1->x.1=y.1:=by
 have hf':=hf.only hl;refine(K2 (ρ:=ρ) pre post (P.run (Ry fr)) rfl rfl (P.low _) P.N9 (hf'.rel (.inl rfl) lA rfl rfl) hb.mem (fun p hp=>⟨hm.mem p hp,hmo p hp⟩) ho.mem iD P.nd).mono fun g' w' hd=>?_;obtain⟨ρ',fr',rfl,kp,Ag,F,bl,inj⟩:=hd;have e:=FZ Ag;rw[e]at F bl inj;exact⟨_,_,fr',rfl,kp,F,wZ.of bl,inj⟩
def dP(fn nt d:Nat):Prop:=∀st,results? Tryz.prog (OO [] []) hN fn (dz nt st [(d,.bC 0)])=.ok (.bC 0)
theorem leave1(R:dP fn nt d){k:List Item}{x:Value}(hf:FA fn nt (.code .ret::k) [] .normal lv fr)(hx:fP d lv=some x):Goes (G fr cs) w fun g' w'=>∃fr',g'=G fr' cs∧w'=w∧cV fn fr' w' x:=
 kV (ρ:=bL [] [] [(0,x)]) (lA:=[(d,.bC 0)]) (bs:=[]) (mem:=[]) hf (a:=.bC 0) (fun p hp=>by obtain rfl:=ah.1 hp;exact cD hx) R (nofun) (nofun)
def sP(fn nt d d':Nat):Prop:=∀st,results? Tryz.prog (OO [] []) hN fn (dz nt st [(d,.bC 0),(d',.bC 1)])=.ok (.tuple [.bC 0,.bC 1])
theorem iN{d d':Nat}(R:sP fn nt d d'){k:List Item}{x y:Value}(hf:FA fn nt (.code .ret::k) [] .normal lv fr)(hx:fP d lv=some x)(hy:fP d' lv=some y):Goes (G fr cs) w fun g' w'=>∃fr',g'=G fr' cs∧w'=w∧cV fn fr' w' (.tuple #[x,y]):=
 kV (ρ:=bL [] [] [(0,x),(1,y)]) (lA:=[(d,.bC 0),(d',.bC 1)]) (bs:=[]) (mem:=[]) hf (a:=.tuple [.bC 0,.bC 1]) (fun p hp=>by
  rcases aj.1 hp with rfl|hp
  ·exact cD hx
  ·obtain rfl:=ah.1 hp;exact cD hy) R (nofun) (nofun)
theorem Pc.jy{f d:Nat}{body:Code}{args:Array Value}{k:List Item}{a:AV}(P:Pc f nt [.code body] lA bs mem [] n ks [d] (.code .ret::k) [a] post)(R:dP f nt d)(ρ:Env)(he:FA f nt [.code body] [] .normal lv (Frame.enter Tryz.prog f args .normal))(hl:fT lv (told ρ lA))(hb:cr ρ bs)(hm:cw ρ w mem):
  dS f args w fun v w'=>bA w w'∧∃I B,v=a.ev (cQ ρ I B)∧wZ (cQ ρ I B) (fun b=>w.heap.size≤b) w' post∧∀x∈post,∀y∈post,(cQ ρ I B).b x.1=(cQ ρ I B).b y.1->x.1=y.1:=by
 refine cF fun cs=>?_;refine(P.go ρ he hl hb hm).trans fun g1 w1 hd=>?_;obtain⟨I,B,bT,rfl,f1,F1,bl,inj⟩:=hd;refine(leave1 R F1 (x:=a.ev (cQ ρ I B)) (by show fP d [(d,a.ev (cQ ρ I B))]=_;unfold fP;rw[Nat.beq_refl];rfl)).mono fun g2 w2 bX=>?_
 obtain⟨cB,rfl,rfl,hL⟩:=bX;exact⟨cB,_,rfl,hL,f1,I,B,rfl,bl,inj⟩
end
structure dD(nt:Nat)(ops:Array Oper)(i:Nat)(bs:List (BE×Bool))(mem:List (AA×AV))(lA:List (Nat×AV))(a:AV)(d:Nat):Prop where
 want:∀st,wY bs mem (dz nt st lA) ops i=.ok true:=by intro st;kernel_rfl
 op:∀st,VE bs mem (dz nt st lA) ops i=.ok (.value a,hN):=by intro st;kernel_rfl
 low:∀st,Ej bs mem (dz nt st lA)=true:=by intro st;kernel_rfl
 dst:FY ops i=some d:=by kernel_rfl
 Ir:AV.low 100 a=true:=by rfl
structure di(nt:Nat)(ops:Array Oper)(i:Nat)(lA:List (Nat×AV))(f:FuncId)(args:List AV)(d:Nat):Prop where
 want:∀st,wY [] [] (dz nt st lA) ops i=.ok true:=by intro st;kernel_rfl
 op:∀st,VE [] [] (dz nt st lA) ops i=.ok (.enter f args,hN):=by intro st;kernel_rfl
 low:∀st,Ej [] [] (dz nt st lA)=true:=by intro st;kernel_rfl
 dst:FY ops i=some d:=by kernel_rfl
 dlt:d<nt:=by decide
 Ir:AV.qq 100 args=true:=by rfl
section
variable {w:World}{cs:List Frame}{fr:Frame}{fn nt i d:Nat}{ops:Array Oper}{l:List Nat}{k:List Item}{lv:List (Nat×Value)}{lA:List (Nat×AV)}{bs:List (BE×Bool)}{mem:List (AA×AV)}
theorem dD.go{a:AV}(o:dD nt ops i bs mem lA a d)(ρ:Env)(hf:FA fn nt (.inRegion ops (i::l)::k) [] .normal lv fr)(hdn:d<nt)(hl:fT lv (told ρ lA))(hb:cr ρ bs)(hm:cw ρ w mem):
  Goes (G fr cs) w fun g' w'=>∃fr',g'=G fr' cs∧bA w w'∧FA fn nt (.inRegion ops l::k) [] .normal (fL d (a.ev ρ) lv) fr':=
 BZ (ρ:=ρ) hf (.inl rfl) hl.mem o.want o.op o.low hb.mem hm.mem o.dst hdn o.Ir
theorem di.go{f:FuncId}{args:List AV}(o:di nt ops i lA f args d)(ρ:Env){Q:Value->World->Prop}(hf:FA fn nt (.inRegion ops (i::l)::k) [] .normal lv fr)(hl:fT lv (told ρ lA))(h:∀w',bA w w'->dS f (AV.evs ρ args).toArray w' fun v w2=>bA w' w2∧Q v w2):
  Goes (G fr cs) w fun g' w'=>∃fr' v,g'=G fr' cs∧bA w w'∧Q v w'∧FA fn nt (.inRegion ops l::k) [] .normal (fL d v lv) fr':=
 (An (ρ:=ρ) (bs:=[]) (mem:=[]) (Q:=fun v w2=>bA w w2∧Q v w2) hf hl.mem o.want o.op o.low (nofun) (nofun) o.dst o.dlt o.Ir (fun w' f1=>(h w' f1).mono fun v w2 hd=>⟨f1.trans hd.1,hd.2⟩)).mono fun g' w' hd=>by obtain⟨fr',v,h1,h2,h3⟩:=hd;exact⟨fr',v,h1,h2.1,h2.2,h3⟩
end
theorem w_{f nt:Nat}{t:TT}{body:Code}(h:bP Tryz.prog f [.bC 0,.bC 1,.bC 2] .normal=.ok ⟨f,nt,t,[.code body],[],.run,.normal⟩)(hs:kA (⟨f,nt,t,[.code body],[],.run,.normal⟩:bR) [0,1,2]=⟨f,nt,[.code body],[],.run,.normal,[],[],[.bC 0,.bC 1,.bC 2]⟩)(x y z:Value):
  FA f nt [.code body] [] .normal [(0,x),(1,y),(2,z)] (Frame.enter Tryz.prog f #[x,y,z] .normal):=by
 let ρ:Env:=bL [] [] [(0,x),(1,y),(2,z)];exact Dk.of (live:=[0,1,2]) (vals:=[.bC 0,.bC 1,.bC 2]) (dA:=[]) (gS (U:=fun _=>True) h (.inl rfl) ⟨trivial,trivial,trivial,trivial⟩ (ρ:=ρ)).1 hs (.inl rfl)
def ja(ops:Array Oper)(i:Nat):List Nat:=match ops[i]? with
 |some o=>(o.after.toList.filter fun e=>Region.binds .any e).map (·.on)
 |none=>[]
theorem qi{ops:Array Oper}{r:List Nat}{i:Nat}(h:i∈cI ops r):i<ops.size∧i∉r∧∀p∈ja ops i,p∈r:=by refine⟨(dg h).1,(dg h).2,fun p hp=>?_⟩;obtain⟨_,o,ho,hq⟩:=fW.1 h;unfold ja at hp;rw[ho]at hp;obtain⟨e,he,rfl⟩:=bq.1 hp;obtain⟨h1,h2⟩:=aW.1 he;exact hq e h1 h2
theorem Is{ops:Array Oper}{r:List Nat}(h:je ops r []){i:Nat}(hi:i<ops.size)(hr:i∉r)(hp:∀p∈ja ops i,p∈r):False:=by
 have h':cI ops r=[]:=h;have:i∈cI ops r:=fW.2 ⟨hr,ops[i],aO hi,fun e he hb=>hp _ (by unfold ja;rw[aO hi];exact bq.2 ⟨e,aW.2 ⟨he,hb⟩,rfl⟩)⟩
 rw[h']at this;cases this
theorem rF{ops:Array Oper}(hp:∀i,i<ops.size->∀p∈ja ops i,p<i){r:List Nat}(hs:je ops r []):∀i,i<ops.size->i∈r:=by
 intro i
 induction i using Nat.strongRecOn with
 |ind i ih=>intro hi;refine Classical.byContradiction fun hr=>Is hs hi hr fun p VH=>ih p (hp i hi p VH) (Nat.lt_trans (hp i hi p VH) hi)
section
variable {fn nt:Nat}{ops:Array Oper}{k:List Item}{b:List (Nat×Value)}{cs:List Frame}
structure DrG(fn nt:Nat)(ops:Array Oper)(k:List Item)(b:List (Nat×Value))(nm:Nat->Nat)(val:Nat->Value->World->Prop)(r l:List Nat)(fr:Frame)(w:World):Prop where
 ex:∃lv,FA fn nt (.inRegion ops l::k) [] .normal lv fr∧(∀x∈b,x∈lv)∧∀i∈r,∃v,(nm i,v)∈lv∧val i v w
theorem gH{w:World}{fr:Frame}{id:Nat}(hf:FA fn nt (.code (.region id ops true)::k) [] .normal b fr):
  Goes (G fr cs) w fun g' w'=>∃l fr',g'=G fr' cs∧bA w w'∧je ops [] l∧FA fn nt (.inRegion ops l::k) [] .normal b fr':=by
 obtain⟨⟨tm,rfl,h2,h3⟩,h4,h5⟩:=hf;have s:=step_region_draw (P:=Tryz.prog) (b:=Go.Proofs.YtmobbajggkjpgaaGreat.SX.wj fn .normal) (a:=⟨tm,[]⟩) (ops:=ops) (id:=id) (k:=k) (cs:=cs) (w:=w);rw[show Tryz.prog.follows .mixedOrders=true from mixed]at s;exact⟨_,_,.head s (.refl _ _),_,_,rfl,⟨fun _ _=>rfl,ax _,rfl,rfl,rfl⟩,jV ops _,⟨tm,rfl,h2,h3⟩,h4,h5⟩
theorem B8{nm:Nat->Nat}{val:Nat->Value->World->Prop}(hp:∀i,i<ops.size->∀p∈ja ops i,p<i)(hb:∀i,i<ops.size->∀x∈b,x.1≠nm i)(hn:∀i j,i<ops.size->j<ops.size->i≠j->nm j≠nm i)(keep:∀i v w w',val i v w->bA w w'->val i v w')
 {w0:World}(step:∀i,i<ops.size->∀(l:List Nat) (w:World) (fr:Frame) (lv:List (Nat×Value)),bA w0 w->FA fn nt (.inRegion ops (i::l)::k) [] .normal lv fr->(∀x∈b,x∈lv)->(∀p∈ja ops i,∃v,(nm p,v)∈lv∧val p v w)->
   Goes (G fr cs) w fun g' w'=>∃fr' v,g'=G fr' cs∧bA w w'∧val i v w'∧FA fn nt (.inRegion ops l::k) [] .normal (fL (nm i) v lv) fr'):
  ∀(l r:List Nat) {w:World} {fr:Frame},bA w0 w->(∀i∈r,i<ops.size)->je ops r l->DrG fn nt ops k b nm val r l fr w->Goes (G fr cs) w fun g' w'=>∃fr' lv,g'=G fr' cs∧bA w0 w'∧FA fn nt (.inRegion ops []::k) [] .normal lv fr'∧(∀x∈b,x∈lv)∧∀i,i<ops.size->∃v,(nm i,v)∈lv∧val i v w'
 |[],r,w,fr,hi,hr,hs,D=>by obtain⟨lv,h1,h2,h3⟩:=D.ex;exact .here ⟨fr,lv,rfl,hi,h1,h2,fun i hlt=>h3 i (rF hp hs i hlt)⟩
 |i::l,r,w,fr,hi,hr,hs,D=>by
  obtain⟨lv,h1,h2,h3⟩:=D.ex;obtain⟨q1,q2,q3⟩:=qi hs.1;refine(step i q1 l w fr lv hi h1 h2 fun p VH=>h3 p (q3 p VH)).trans fun g1 w1 hd=>?_;obtain⟨bT,v,rfl,f1,hv,F1⟩:=hd;refine B8 hp hb hn keep step l (i::r) (hi.trans f1) (fun j hj=>?_) hs.2 ⟨_,F1,fun x hx=>?_,fun j hj=>?_⟩
  ·rcases aj.1 hj with rfl|hj
   ·exact q1
   ·exact hr j hj
  ·exact aa _ (aW.2 ⟨h2 x hx,by simpa using hb i q1 x hx⟩)
  ·rcases aj.1 hj with rfl|hj
   ·exact⟨v,ai ..,hv⟩
   ·obtain⟨u,h4,h5⟩:=h3 j hj;refine⟨u,aa _ (aW.2 ⟨h4,?_⟩),keep _ _ _ _ h5 f1⟩;have:=hn i j q1 (hr j hj) fun e=>q2 (e▸hj);simpa using this
end
def Ap(c:Code):Bool:=match c with
 |.region _ _ true=>true
 |_=>false
theorem gI{c:Code}(h:Ap c=true):∃id,c=.region id (opsOf c) true:=by
 unfold Ap at h;split at h
 ·exact⟨_,rfl⟩
 ·cases h
theorem K3{ops:Array Oper}{n:Nat}(hn:ops.size=n)(h:((List.range n).all fun i=>(ja ops i).all fun p=>Nat.blt p i)=true):∀i,i<ops.size->∀p∈ja ops i,p<i:=fun i hi p hp=>by have h1:=aD.1 h i (List.mem_range.2 (hn▸hi));exact Nat.blt_eq.mp (aD.1 h1 p hp)
theorem dy{ops:Array Oper}{i p:Nat}(h:(ja ops i).contains p=true):p∈ja ops i:=by simpa using h
structure jO(nt:Nat)(ops:Array Oper)(i:Nat)(lA:List (Nat×AV))(op:Op)(ty:TypeId)(d:Option Nat):Prop where
 want:∀st,wY [] [] (dz nt st lA) ops i=.ok true:=by intro st;kernel_rfl
 low:∀st,Ej [] [] (dz nt st lA)=true:=by intro st;kernel_rfl
 is:(ops[i]?).map (fun o=>(o.op,o.type,o.dst))=some (op,ty,d):=by kernel_rfl
theorem jO.ex{nt i:Nat}{ops:Array Oper}{lA:List (Nat×AV)}{op:Op}{ty:TypeId}{d:Option Nat}(o:jO nt ops i lA op ty d):∃x:Oper,ops[i]?=some x∧x.op=op∧x.type=ty∧x.dst=d:=by
 have:=o.is;cases e:ops[i]? with
 |none=>rw[e]at this;cases this
 |some x=>rw[e]at this;simp only[av,Option.some.injEq,Prod.mk.injEq]at this;exact⟨x,rfl,this⟩
section
variable {w:World}{cs:List Frame}{fr:Frame}{fn nt i d:Nat}{ops:Array Oper}{l:List Nat}{k:List Item}{lv:List (Nat×Value)}{lA:List (Nat×AV)}{op:Op}{ty:TypeId}{R:Value->World->Prop}
theorem B_{tm:Array Value}{n:Nat}{x:Value}(h:∀p∈lv,tm.getD p.1 undef=p.2)(hx:fP n lv=some x):tm.getD n undef=x:=h _ (cD hx)
theorem jO.go(o:jO nt ops i lA op ty (some d))(ρ:Env)(hf:FA fn nt (.inRegion ops (i::l)::k) [] .normal lv fr)(hdn:d<nt)(hl:fT lv (told ρ lA))
 (W:∀tm:Array Value,(∀n x,fP n lv=some x->(⟨tm,[]⟩:Act).eval (.tmp n)=x)->∀x:Oper,x.op=op->x.type=ty->wq Tryz.prog (fun _=>True) (fun _ _=>False) (execOp (⟨tm,[]⟩:Act).eval x) (fun nx w'=>∃v,nx=.value v∧R v w') w):
  Goes (G fr cs) w fun g' w'=>∃fr' v,g'=G fr' cs∧R v w'∧FA fn nt (.inRegion ops l::k) [] .normal (fL d v lv) fr':=by
 obtain⟨⟨tm,rfl,h2,h3⟩,h4,h5⟩:=hf;obtain⟨x,hx,e1,e2,e3⟩:=o.ex;obtain⟨x',hx',AX,_⟩:=Am (ρ:=ρ) (bs:=[]) (mem:=[]) (ds:=[]) (w:=w) h2 h4 (fun p hp=>h3 p (hl.mem p hp)) (o.want _) (o.low _) (nofun) (nofun);obtain rfl:x=x':=au (hx.symm.trans hx');have q1:((execOp (⟨tm,[]⟩:Act).eval x).run Tryz.prog w).goes (fun nx w'=>∃v,nx=.value v∧R v w') (fun _ _=>False):=(lZ (W tm (fun n y hy=>B_ h3 hy) x e1 e2)).1;have hgs:=stepG_op (P:=Tryz.prog) (b:=Go.Proofs.YtmobbajggkjpgaaGreat.SX.wj fn .normal) (k:=k) (cs:=cs) (w:=w) (rest:=l) (a:=⟨tm,[]⟩) hx AX;cases e:(execOp (⟨tm,[]⟩:Act).eval x).run Tryz.prog w with
 |halt y w'=>rw[e]at q1;cases y<;>exact q1.elim
 |ok nx w'=>
  rw[e]at q1;obtain⟨v,rfl,hR⟩:=q1;have s:step Tryz.prog (lone ((Go.Proofs.YtmobbajggkjpgaaGreat.SX.wj fn .normal).at ⟨tm,[]⟩ (.inRegion ops (i::l)::k)) cs w)=.next (lone ((Go.Proofs.YtmobbajggkjpgaaGreat.SX.wj fn .normal).at ((⟨tm,[]⟩:Act).put ((ops[i]?).bind (·.dst)) v) (.inRegion ops l::k)) cs w'):=by refine step_lone_go ?_;rw[hgs,<-Frame.finish_at];simp[stepG.apply,e]
  refine⟨_,w',.head s (.refl _ _),_,v,rfl,hR,?_⟩;rw[hx,Option.bind_some,e3];exact Ek h2 h3 h4 h5 hdn
theorem jO.go0{R:World->Prop}(o:jO nt ops i lA op ty none)(ρ:Env)(hf:FA fn nt (.inRegion ops (i::l)::k) [] .normal lv fr)(hl:fT lv (told ρ lA))
 (W:∀tm:Array Value,(∀n x,fP n lv=some x->(⟨tm,[]⟩:Act).eval (.tmp n)=x)->∀x:Oper,x.op=op->x.type=ty->wq Tryz.prog (fun _=>True) (fun _ _=>False) (execOp (⟨tm,[]⟩:Act).eval x) (fun nx w'=>nx=.skip∧R w') w):
  Goes (G fr cs) w fun g' w'=>∃fr',g'=G fr' cs∧R w'∧FA fn nt (.inRegion ops l::k) [] .normal lv fr':=by
 obtain⟨⟨tm,rfl,h2,h3⟩,h4,h5⟩:=hf;obtain⟨x,hx,e1,e2,e3⟩:=o.ex;obtain⟨x',hx',AX,_⟩:=Am (ρ:=ρ) (bs:=[]) (mem:=[]) (ds:=[]) (w:=w) h2 h4 (fun p hp=>h3 p (hl.mem p hp)) (o.want _) (o.low _) (nofun) (nofun);obtain rfl:x=x':=au (hx.symm.trans hx');have q1:((execOp (⟨tm,[]⟩:Act).eval x).run Tryz.prog w).goes (fun nx w'=>nx=.skip∧R w') (fun _ _=>False):=(lZ (W tm (fun n y hy=>B_ h3 hy) x e1 e2)).1;have hgs:=stepG_op (P:=Tryz.prog) (b:=Go.Proofs.YtmobbajggkjpgaaGreat.SX.wj fn .normal) (k:=k) (cs:=cs) (w:=w) (rest:=l) (a:=⟨tm,[]⟩) hx AX;cases e:(execOp (⟨tm,[]⟩:Act).eval x).run Tryz.prog w with
 |halt y w'=>rw[e]at q1;cases y<;>exact q1.elim
 |ok nx w'=>
  rw[e]at q1;obtain⟨rfl,hR⟩:=q1;have s:step Tryz.prog (lone ((Go.Proofs.YtmobbajggkjpgaaGreat.SX.wj fn .normal).at ⟨tm,[]⟩ (.inRegion ops (i::l)::k)) cs w)=.next (lone ((Go.Proofs.YtmobbajggkjpgaaGreat.SX.wj fn .normal).at ((⟨tm,[]⟩:Act).put ((ops[i]?).bind (·.dst)) undef) (.inRegion ops l::k)) cs w'):=by refine step_lone_go ?_;rw[hgs,<-Frame.finish_at];simp[stepG.apply,e]
  refine⟨_,w',.head s (.refl _ _),_,rfl,hR,?_⟩;rw[hx,Option.bind_some,e3];exact⟨⟨tm,rfl,h2,h3⟩,h4,h5⟩
end
def jb(w:World)(M:Nat)(ks:List (ByteArray×Bool)):Prop:=qG w M (ks.map fun p=>(.string p.1,.bool p.2))
def eT(s:ByteArray)(ks:List (ByteArray×Bool)):Option Bool:=(ks.find? fun p=>s==p.1).map (·.2)
theorem sQ{s:ByteArray}:∀{es:List MapEntry} {ks:List (ByteArray×Bool)} (i:Nat),es.map (fun e=>(e.key,e.val))=ks.map (fun p=>(.string p.1,.bool p.2))->∃r,Instr.findNow .string (.string s) es i=some r∧r.map (·.2)=(eT s ks).map .bool
 |[],ks,i,h=>by
  cases ks with
  |nil=>exact⟨none,rfl,rfl⟩
  |cons k ks=>cases h
 |e::es,ks,i,h=>by
  cases ks with
  |nil=>cases h
  |cons k ks=>
   simp only[aK,List.cons.injEq,Prod.mk.injEq]at h;obtain⟨⟨h1,h2⟩,h3⟩:=h;unfold Instr.findNow;rw[h1];unfold eT;rw[List.find?_cons];show ∃r,(match some (s==k.1)with
    |some true=>some (some (i,e.val))
    |some false=>Instr.findNow .string (.string s) es (i+1)
    |none=>none)=some r∧_
   cases hb:s==k.1 with
   |true=>exact⟨_,rfl,by simp[h2]⟩
   |false=>obtain⟨r,h4,h5⟩:=sQ (i+1) h3;exact⟨r,h4,h5⟩
theorem WA:Tryz.prog.underlying 83=some (.map 9 4):=by kernel_rfl
theorem RA:Tryz.prog.underlying 9=some .string:=by kernel_rfl
theorem WB:zero? Tryz.prog 4=.ok (.bool (.lit false)):=by kernel_rfl
theorem sR{Ev:Event->Prop}{E:Value->World->Prop}{w:World}{k:Value}{b:Bool}{Q:Unit->World->Prop}(hq:Q () w):wq Tryz.prog Ev E (Instr.checkKey b 10000 9 k) Q w:=by unfold Instr.checkKey;simp only[bF,bK RA];cases k<;>exact hq
theorem uF{Ev:Event->Prop}{E:Value->World->Prop}{w:World}{s:ByteArray}{es:List MapEntry}{ks:List (ByteArray×Bool)}(h:es.map (fun e=>(e.key,e.val))=ks.map (fun p=>(.string p.1,.bool p.2))){Q:Option (Nat×Value)->World->Prop}(hq:∀r,r.map (·.2)=(eT s ks).map .bool->Q r w):wq Tryz.prog Ev E (Instr.findKey 9 (.string s) es) Q w:=by unfold Instr.findKey;simp only[bF,bK RA];obtain⟨r,h1,h2⟩:=sQ (s:=s) 0 h;rw[h1];exact hq r h2
section
variable {w:World}{M:Nat}{ks:List (ByteArray×Bool)}{s:ByteArray}{E:Value->World->Prop}
def xb(ok:Bool)(r:Option Bool):Value:=if ok then .tuple #[.bool (r.getD false),.bool r.isSome]else .bool (r.getD false)
theorem uG(h:jb w M ks){ok:Bool}{Q:Value->World->Prop}(hq:Q (xb ok (eT s ks)) w):wq Tryz.prog (fun _=>True) E (Instr.lookup 83 (.map (some M)) (.string s) ok) Q w:=by
 obtain⟨arr,nu,h1,h2⟩:=h;simp only[Instr.lookup,bF,bK WA];refine jK h1 (by intros;simp) trivial ?_;simp only[bF,bG];refine sR ?_;refine uF h2 fun r hr=>?_;cases r with
 |none=>
  have e:eT s ks=none:=by
   cases e:eT s ks with
   |none=>rfl
   |some b=>rw[e]at hr;cases hr
  rw[e]at hq;simp only[bF,bG];rw[dX (ρ:=bL [] [] []) WB];cases ok<;>exact hq
 |some p=>
  obtain⟨j,x⟩:=p;have e:∃b,eT s ks=some b∧x=.bool b:=by
   cases e:eT s ks with
   |none=>rw[e]at hr;cases hr
   |some b=>rw[e]at hr;exact⟨b,rfl,au hr⟩
  obtain⟨b,e1,rfl⟩:=e;rw[e1]at hq;simp only[bG];cases ok<;>exact hq
theorem Em(h:jb w M ks)(hn:eT s ks=none){b:Bool}{Q:Unit->World->Prop}(hq:∀w',jb w' M (ks++[(s,b)])->bS (fun n=>n=M) w w'->Q () w'):wq Tryz.prog (fun _=>True) E (Instr.mapUpdate 83 (.map (some M)) (.string s) (.bool b)) Q w:=by
 have hlt:=qG.lt h;obtain⟨arr,nu,h1,h2⟩:=h;simp only[Instr.mapUpdate,bF,bK WA];refine jK h1 (by intros;simp) trivial ?_;simp only[bF];refine sR ?_;refine uF h2 fun r hr=>?_;rw[hn]at hr;cases r with
 |some p=>cases hr
 |none=>
  refine tO h1 (by intros;simp) trivial ?_;refine hq _ ⟨arr.push {key:=.string s,val:=.bool b,born:=nu},nu+1,?_,?_⟩ ⟨fun n hn=>?_,?_,rfl,rfl,rfl⟩
  ·simp[hlt]
  ·rw[Array.toList_push,List.map_append,h2,List.map_append];rfl
  ·have:M≠n:=fun e=>hn e.symm;simp[this]
  ·simp
end
noncomputable def q55(l:Nat):Code:=pc (bD Tryz.f88) (pd l)
theorem WC:bP Tryz.prog 88 [.bC 0] .normal=.ok ⟨88,11,c8 88 [.bC 0],[.code (bD Tryz.f88)],[],.run,.normal⟩:=by kernel_rfl
theorem Ca:dP 88 11 2:=fun st=>by kernel_rfl
noncomputable def q53(l:Nat):Code:=pc (bD Tryz.f86) (pd l)
theorem WD:bP Tryz.prog 86 [.bC 0] .normal=.ok ⟨86,29,c8 86 [.bC 0],[.code (bD Tryz.f86)],[],.run,.normal⟩:=by kernel_rfl
theorem WE:dP 86 29 2:=fun st=>by kernel_rfl
noncomputable def q54(l:Nat):Code:=pc (bD Tryz.f87) (pd l)
theorem WG:bP Tryz.prog 87 [] .normal=.ok ⟨87,3,c8 87 [],[.code (bD Tryz.f87)],[],.run,.normal⟩:=by kernel_rfl
theorem WH:dP 87 3 0:=fun st=>by kernel_rfl
noncomputable def mM(l:Nat):Code:=pc (bD Tryz.f66) (pd l)
theorem WI:bP Tryz.prog 66 [.bC 0] .normal=.ok ⟨66,43,c8 66 [.bC 0],[.code (bD Tryz.f66)],[],.run,.normal⟩:=by kernel_rfl
theorem F0:dP 66 43 2:=fun st=>by kernel_rfl
noncomputable def K4(l:Nat):Code:=pc (bD Tryz.f89) (pd l)
theorem WJ:bP Tryz.prog 89 [.bC 0,.bC 1] .normal=.ok ⟨89,34,c8 89 [.bC 0,.bC 1],[.code (bD Tryz.f89)],[],.run,.normal⟩:=by kernel_rfl
theorem WK:dP 89 34 4:=fun st=>by kernel_rfl
noncomputable abbrev F_:List Item:=[.code .ret,.inBlock 0,.code (q55 7)]
abbrev K5:List (BE×Bool):=[((.cmp .eql (v 1) (.lit 4)),true)]
theorem rk4:Pc 88 11 [.code (bD Tryz.f88)] [(0,i8 (v 1))] K5 [] [] 23 [] [2] F_ [i64 (.lit 1)] []:={}
abbrev RB:List (BE×Bool):=[((.cmp .eql (v 1) (.lit 4)),false),((.cmp .eql (v 1) (.lit 5)),true)]
theorem rk5:Pc 88 11 [.code (bD Tryz.f88)] [(0,i8 (v 1))] RB [] [] 26 [] [2] F_ [i64 (.lit 1)] []:={}
abbrev RD:List (BE×Bool):=[((.cmp .eql (v 1) (.lit 4)),false),((.cmp .eql (v 1) (.lit 5)),false),((.cmp .eql (v 1) (.lit 6)),true)]
theorem rk6:Pc 88 11 [.code (bD Tryz.f88)] [(0,i8 (v 1))] RD [] [] 32 [] [2] F_ [i64 (.lit 2)] []:={}
abbrev WL:List (BE×Bool):=[((.cmp .eql (v 1) (.lit 4)),false),((.cmp .eql (v 1) (.lit 5)),false),((.cmp .eql (v 1) (.lit 6)),false),((.cmp .eql (v 1) (.lit 3)),true)]
theorem rk3:Pc 88 11 [.code (bD Tryz.f88)] [(0,i8 (v 1))] WL [] [] 38 [] [2] F_ [i64 (.lit 3)] []:={}
abbrev WM:List (BE×Bool):=[((.cmp .eql (v 1) (.lit 4)),false),((.cmp .eql (v 1) (.lit 5)),false),((.cmp .eql (v 1) (.lit 6)),false),((.cmp .eql (v 1) (.lit 3)),false)]
theorem rk0:Pc 88 11 [.code (bD Tryz.f88)] [(0,i8 (v 1))] WM [] [] 40 [] [2] [.code .ret] [i64 (.lit 4)] []:={}
theorem WN(a b c d e f g:Bool):Pc 86 29 [.code (bD Tryz.f86)] [(0,.int .u8 (v 1))] [((.cmp .geq (v 1) (.lit 97)),a),((.cmp .leq (v 1) (.lit 122)),b),((.cmp .geq (v 1) (.lit 65)),c),((.cmp .leq (v 1) (.lit 90)),d),((.cmp .geq (v 1) (.lit 48)),e),((.cmp .leq (v 1) (.lit 57)),f),((.cmp .eql (v 1) (.lit 95)),g)] [] [] 34 [] [2] [.code .ret] [.bool (.lit (a&&b||c&&d||e&&f||g))] []:=⟨fun st=>by cases a<;>cases b<;>cases c<;>cases d<;>cases e<;>cases f<;>cases g<;>kernel_rfl,fun st=>by kernel_rfl,by cases a<;>cases b<;>cases c<;>cases d<;>cases e<;>cases f<;>cases g<;>kernel_rfl,of_decide_eq_true (by kernel_rfl)⟩
theorem WO:Pc 87 3 [.code (bD Tryz.f87)] [] [] [] [] 21 [100] [0] [.code .ret] [.map (some (.dyn 100))] [(100,.map [(.str ⟨#[108,101,116]⟩,FB),(.str ⟨#[111,117,116]⟩,FB),(.str ⟨#[114,97,99,101]⟩,FB),(.str ⟨#[99,97,110,99,101,108]⟩,FB),(.str ⟨#[97,108,108]⟩,TB),(.str ⟨#[102,105,114,115,116]⟩,TB),(.str ⟨#[119,104,101,110]⟩,TB),(.str ⟨#[102,97,105,108]⟩,TB),(.str ⟨#[112,97,110,105,99]⟩,TB),(.str ⟨#[109,101,109,111]⟩,TB),(.str ⟨#[98,117,114,110]⟩,TB)])]:={}
noncomputable abbrev Ga:List Item:=[.code .ret,.code (mM 7)]
theorem nm1:Pc 66 43 [.code (bD Tryz.f66)] [(0,ss 1)] [((.cmp .lss (.jj (.var 1)) (.lit 1)),true)] [] [] 31 [] [2] Ga [FB] []:={}
abbrev WQ:List (BE×Bool):=[((.cmp .lss (.jj (.var 1)) (.lit 1)),false),((.cmp .gtr (.jj (.var 1)) (.lit 32)),true)]
theorem nm2:Pc 66 43 [.code (bD Tryz.f66)] [(0,ss 1)] WQ [] [] 31 [] [2] Ga [FB] []:={}
abbrev WR:List (BE×Bool):=[((.cmp .lss (.jj (.var 1)) (.lit 1)),false),((.cmp .gtr (.jj (.var 1)) (.lit 32)),false)]
theorem nm3:Pc 66 43 [.code (bD Tryz.f66)] [(0,ss 1)] WR [] [] 17 [] [0,14,15] [.inRegion (opsOf (mM 12)) [10,11,12,13,14,15,16,17],.code (mM 13),.code (mM 7)] [ss 1,FB,ss 1] []:={}
theorem nmA:jO 43 (opsOf (mM 12)) 10 [(14,FB)] (.index 9 (.tmp 15) (.const (.int .i64 0))) 5 (some 16):={}
noncomputable abbrev WS:List Item:=[.inRegion (opsOf (mM 12)) [11,12,13,14,15,16,17],.code (mM 13),.code (mM 7)]
theorem ab2:Pc 66 43 WS [(0,ss 1),(14,FB),(16,.int .u8 (v 2))] [((.cmp .lss (v 2) (.lit 97)),true)] [] [] 13 [] [2] Ga [FB] []:={}
theorem ab3:Pc 66 43 WS [(0,ss 1),(14,FB),(16,.int .u8 (v 2))] [((.cmp .lss (v 2) (.lit 97)),false)] [] [] 4 [] [0,19,20] [.inRegion (opsOf (mM 12)) [15,16,17],.code (mM 13),.code (mM 7)] [ss 1,FB,ss 1] []:={}
theorem nmB:jO 43 (opsOf (mM 12)) 15 [(19,FB)] (.index 9 (.tmp 20) (.const (.int .i64 0))) 5 (some 21):={}
noncomputable abbrev PW:List Item:=[.inRegion (opsOf (mM 12)) [16,17],.code (mM 13),.code (mM 7)]
theorem ab4:Pc 66 43 PW [(0,ss 1),(19,FB),(21,.int .u8 (v 2))] [((.cmp .gtr (v 2) (.lit 122)),true)] [] [] 8 [] [2] Ga [FB] []:={}
noncomputable abbrev Cb:List Item:=[.code (mM 116),.inLoop (mM 116),.inBlock 0,.code (mM 15)]
theorem ab5:Pc 66 43 PW [(0,ss 1),(19,FB),(21,.int .u8 (v 2))] [((.cmp .gtr (v 2) (.lit 122)),false)] [] [] 14 [] [0,25,26] Cb [ss 1,i64 (.jj (.var 1)),i64 (.lit 0)] []:={}
theorem nmR:Pc 66 43 Cb [(0,ss 1),(25,i64 (.jj (.var 1))),(26,i64 (v 6))] [((.cmp .lss (v 6) (.jj (.var 1))),true)] [] [] 18 [] [0,25,26,29,30] [.inRegion (opsOf (mM 7474)) [2,3,4],.code (mM 7475),.inBlock 1,.code (mM 935),.inLoop (mM 116),.inBlock 0,.code (mM 15)] [ss 1,i64 (.jj (.var 1)),i64 (v 6),ss 1,i64 (v 6)] []:={}
theorem nmC:jO 43 (opsOf (mM 7474)) 2 [] (.index 9 (.tmp 29) (.tmp 30)) 5 (some 31):={}
theorem nmD:di 43 (opsOf (mM 7474)) 3 [(31,.bC 31)] 86 [.bC 31] 32:={}
noncomputable abbrev WT:List Item:=[.inRegion (opsOf (mM 7474)) [4],.code (mM 7475),.inBlock 1,.code (mM 935),.inLoop (mM 116),.inBlock 0,.code (mM 15)]
theorem nmF:Pc 66 43 WT [(0,ss 1),(25,i64 (.jj (.var 1))),(26,i64 (v 6)),(32,FB)] [] [] [] 7 [] [2] [.code .ret,.inBlock 1,.code (mM 935),.inLoop (mM 116),.inBlock 0,.code (mM 15)] [FB] []:={}
theorem nmT:Pc 66 43 WT [(0,ss 1),(25,i64 (.jj (.var 1))),(26,i64 (v 6)),(32,TB)] [] [] [] 10 [] [0,25,26] Cb [ss 1,i64 (.jj (.var 1)),i64 (.op .add .i64 (v 6) (.lit 1))] []:={}
theorem nmE:Pc 66 43 Cb [(0,ss 1),(25,i64 (.jj (.var 1))),(26,i64 (v 6))] [((.cmp .lss (v 6) (.jj (.var 1))),false)] [] [] 9 [] [0] [.inRegion (opsOf (mM 30)) [0,1,2,3,4,5,6,7],.code (mM 31)] [ss 1] []:={}
theorem nmG:di 43 (opsOf (mM 30)) 0 [] 87 [] 36:={}
theorem nmH:Pc 66 43 [.inRegion (opsOf (mM 30)) [1,2,3,4,5,6,7],.code (mM 31)] [(0,ss 1),(36,.bC 36)] [] [] [] 1 [] [36,37] [.inRegion (opsOf (mM 30)) [2,3,4,5,6,7],.code (mM 31)] [.bC 36,ss 1] []:={}
theorem nmI:jO 43 (opsOf (mM 30)) 2 [] (.lookup 83 (.tmp 36) (.tmp 37) true) 125 (some 38):={}
noncomputable abbrev PX:List Item:=[.inRegion (opsOf (mM 30)) [3,4,5,6,7],.code (mM 31)]
theorem N_:Pc 66 43 PX [(38,.tuple [.bC 0,TB])] [] [] [] 12 [] [2] [.code .ret] [FB] []:={}
theorem K6:Pc 66 43 PX [(38,.tuple [.bC 0,FB])] [] [] [] 12 [] [2] [.code .ret] [TB] []:={}
def ck(op:Int):Int:=if op=4 then 1 else if op=5 then 1 else if op=6 then 2 else if op=3 then 3 else 4
def zo(n:Nat):Value:=.int .u8 n
section
variable {w:World}{cs:List Frame}{fr:Frame}
theorem sS{op:Int}:dS 88 #[cY op] w fun v w'=>bA w w'∧v=iV (ck op):=by
 have E:=cz WC rfl (cY op);have no:∀{n:Int},op≠n->(decide (op=n))=false:=fun h=>decide_eq_false h;unfold ck;by_cases h4:op=4
 ·subst h4;refine(rk4.jy Ca (bL [(1,4)] [] []) E rfl ⟨rfl,trivial⟩ trivial).mono fun v w' ⟨f,I,B,e,_⟩=>⟨f,e⟩
 ·by_cases h5:op=5
  ·subst h5;refine(rk5.jy Ca (bL [(1,5)] [] []) E rfl ⟨rfl,rfl,trivial⟩ trivial).mono fun v w' ⟨f,I,B,e,_⟩=>⟨f,e⟩
  ·by_cases h6:op=6
   ·subst h6;refine(rk6.jy Ca (bL [(1,6)] [] []) E rfl ⟨rfl,rfl,rfl,trivial⟩ trivial).mono fun v w' ⟨f,I,B,e,_⟩=>⟨f,e⟩
   ·by_cases h3:op=3
    ·subst h3;refine(rk3.jy Ca (bL [(1,3)] [] []) E rfl ⟨rfl,rfl,rfl,rfl,trivial⟩ trivial).mono fun v w' ⟨f,I,B,e,_⟩=>⟨f,e⟩
    ·rw[if_neg h4,if_neg h5,if_neg h6,if_neg h3];refine(rk0.jy Ca (bL [(1,op)] [] []) E rfl ⟨no h4,no h5,no h6,no h3,trivial⟩ trivial).mono fun v w' ⟨f,I,B,e,_⟩=>⟨f,e⟩
def fK(b:Int):Bool:=decide (b≥97)&&decide (b≤122)||decide (b≥65)&&decide (b≤90)||decide (b≥48)&&decide (b≤57)||decide (b=95)
theorem Eo{b:Nat}:dS 86 #[zo b] w fun v w'=>bA w w'∧v=.bool (fK b):=
 ((WN (decide ((b:Int)≥97)) (decide ((b:Int)≤122)) (decide ((b:Int)≥65)) (decide ((b:Int)≤90)) (decide ((b:Int)≥48)) (decide ((b:Int)≤57)) (decide ((b:Int)=95))).jy WE (bL [(1,b)] [] []) (cz WD rfl (zo b)) rfl ⟨rfl,rfl,rfl,rfl,rfl,rfl,rfl,trivial⟩ trivial).mono fun v w' ⟨f,I,B,e,_⟩=>⟨f,e⟩
def jo:List (ByteArray×Bool):=[(⟨#[108,101,116]⟩,false),(⟨#[111,117,116]⟩,false),(⟨#[114,97,99,101]⟩,false),(⟨#[99,97,110,99,101,108]⟩,false),(⟨#[97,108,108]⟩,true),(⟨#[102,105,114,115,116]⟩,true),(⟨#[119,104,101,110]⟩,true),(⟨#[102,97,105,108]⟩,true),(⟨#[112,97,110,105,99]⟩,true),(⟨#[109,101,109,111]⟩,true),(⟨#[98,117,114,110]⟩,true)]
theorem It:dS 87 #[] w fun v w'=>bA w w'∧∃M,v=.map (some M)∧jb w' M jo:=
 (WO.jy WH (bL [] [] []) (Ao WG) rfl trivial trivial).mono fun v w' ⟨f,I,B,e,bl,_⟩=>⟨f,_,e,bl.1.2⟩
def cX(s:ByteArray)(i:Nat):Nat:=((s[i]?).map (·.toNat)).getD 0
theorem Oa{Ev:Event->Prop}{E:Value->World->Prop}{s:ByteArray}{i:Nat}(hi:i<s.size){Q:Value->World->Prop}(hq:Q (zo (cX s i)) w):wq Tryz.prog Ev E (Instr.index 9 (.string s) (iV i)) Q w:=by
 unfold Instr.index;simp only[iV,asIntOf,bF,bG,bK RA];have h0:(0:Int)≤(i:Int):=by omega
 rw[if_pos h0];have e:s[(i:Int).toNat]?=some s[i]:=getElem?_pos s i hi;rw[e];have:zo (cX s i)=.int .u8 s[i].toNat:=by unfold zo cX;rw[getElem?_pos s i hi];rfl
 rw[this]at hq;exact hq
def gq(s:ByteArray):Bool:=decide (1≤s.size)&&decide (s.size≤32)&&decide (97≤cX s 0)&&decide (cX s 0≤122)&&(List.range s.size).all (fun i=>fK (cX s i))&&(eT s jo).isNone
theorem sU{i d nt fn:Nat}{ops:Array Oper}{lA:List (Nat×AV)}{l:List Nat}{k:List Item}{lv:List (Nat×Value)}{x y:Operand}{s:ByteArray}{j:Nat}(o:jO nt ops i lA (.index 9 x y) 5 (some d))(ρ:Env)(hf:FA fn nt (.inRegion ops (i::l)::k) [] .normal lv fr)(hdn:d<nt)(hl:fT lv (told ρ lA))(hj:j<s.size)
 (hx:∀tm:Array Value,(∀n x,fP n lv=some x->(⟨tm,[]⟩:Act).eval (.tmp n)=x)->(⟨tm,[]⟩:Act).eval x=.string s∧(⟨tm,[]⟩:Act).eval y=iV j):
  Goes (G fr cs) w fun g' w'=>∃fr',g'=G fr' cs∧w'=w∧FA fn nt (.inRegion ops l::k) [] .normal (fL d (zo (cX s j)) lv) fr':=by
 refine(o.go (R:=fun v w'=>v=zo (cX s j)∧w'=w) ρ hf hdn hl fun tm ie x' e1 e2=>?_).mono fun g' w' hd=>?_
 ·obtain⟨h1,h2⟩:=hx tm ie;unfold execOp;simp only[e1,h1,h2,bF];exact Oa hj ⟨_,rfl,rfl,rfl⟩
 ·obtain⟨fr',v,rfl,⟨rfl,rfl⟩,F⟩:=hd;exact⟨fr',rfl,rfl,F⟩
theorem RE{s:ByteArray}{w0:World}(fw:bA w0 w){P:Prop}(hP:P)(hf:FA 66 43 (.inRegion (opsOf (mM 30)) [0,1,2,3,4,5,6,7]::[.code (mM 31)]) [] .normal [(0,.string s)] fr):
  Goes (G fr cs) w fun g' w'=>∃fr',g'=G fr' cs∧bA w0 w'∧cV 66 fr' w' (.bool (eT s jo).isNone):=by
 refine(nmG.go (bL [] [] []) (Q:=fun v w'=>∃M,v=.map (some M)∧jb w' M jo) hf rfl fun w' f1=>It).trans fun g1 w1 hd=>?_;obtain⟨bT,v,rfl,f1,⟨M,rfl,hM⟩,F1⟩:=hd;refine(nmH.go (Go.Proofs.YtmobbajggkjpgaaGreat.SX.jn [] [] [(36,.map (some M))] [(1,s)]) F1 rfl trivial trivial).trans fun g2 w2 bX=>?_;obtain⟨I,B,cB,rfl,f2,F2,_⟩:=bX;have WU:jb w2 M jo:=bM (k:=.map _) hM f2;refine(nmI.go (R:=fun v w'=>v=xb true (eT s jo)∧w'=w2) (bL [] [] []) F2 (by decide) rfl fun tm ie x' e1 e2=>?_).trans fun g3 w3 cn=>?_
 ·unfold execOp;simp only[e1,bF];rw[ie 36 (.map (some M)) rfl,ie 37 (.string s) rfl];exact uG WU ⟨_,rfl,rfl,rfl⟩
 obtain⟨cC,v,rfl,⟨rfl,rfl⟩,F3⟩:=cn;cases e:eT s jo with
 |none=>rw[e]at F3;refine(K6.go (bL [] [] [(0,.bool false)]) F3 rfl trivial trivial).trans fun g4 w4 c9=>?_;obtain⟨I,B,eg,rfl,f4,F4,_⟩:=c9;refine(leave1 F0 F4 rfl).mono fun g5 w5 d_=>?_;obtain⟨gh,rfl,rfl,hL⟩:=d_;exact⟨gh,rfl,fw.trans (f1.trans (f2.trans f4)),hL⟩
 |some b=>rw[e]at F3;refine(N_.go (bL [] [] [(0,.bool b)]) F3 rfl trivial trivial).trans fun g4 w4 c9=>?_;obtain⟨I,B,eg,rfl,f4,F4,_⟩:=c9;refine(leave1 F0 F4 rfl).mono fun g5 w5 d_=>?_;obtain⟨gh,rfl,rfl,hL⟩:=d_;exact⟨gh,rfl,fw.trans (f1.trans (f2.trans f4)),hL⟩
theorem Gc{s:ByteArray}{w0:World}(hs:s.size≤32):∀(m j:Nat) {w:World} {fr:Frame},j+m=s.size->bA w0 w->FA 66 43 Cb [] .normal [(0,.string s),(25,iV s.size),(26,iV j)] fr->
  Goes (G fr cs) w fun g' w'=>∃fr',g'=G fr' cs∧bA w0 w'∧cV 66 fr' w' (.bool ((List.range m).all (fun i=>fK (cX s (j+i)))&&(eT s jo).isNone))
 |0,j,w,fr,hj,fw,hf=>by refine(nmE.go (Go.Proofs.YtmobbajggkjpgaaGreat.SX.jn [(6,j)] [] [] [(1,s)]) hf rfl ⟨decide_eq_false (by show ¬((j:Int)<((s.size:Nat):Int));omega),trivial⟩ trivial).trans fun g1 w1 hd=>?_;obtain⟨I,B,bT,rfl,f1,F1,_⟩:=hd;exact RE (fw.trans f1) trivial F1
 |m+1,j,w,fr,hj,fw,hf=>by
  refine(nmR.go (Go.Proofs.YtmobbajggkjpgaaGreat.SX.jn [(6,j)] [] [] [(1,s)]) hf rfl ⟨decide_eq_true (by show((j:Int)<((s.size:Nat):Int));omega),trivial⟩ trivial).trans fun g1 w1 hd=>?_;obtain⟨I,B,bT,rfl,f1,F1,_⟩:=hd;refine(sU (s:=s) (j:=j) nmC (bL [] [] []) F1 (by decide) rfl (by omega) fun tm ie=>⟨ie 29 _ rfl,ie 30 _ rfl⟩).trans fun g2 w2 bX=>?_;obtain⟨cB,rfl,rfl,F2⟩:=bX;refine(nmD.go (bL [] [] [(31,zo (cX s j))]) (Q:=fun v w'=>v=.bool (fK (cX s j))) F2 rfl fun w' f1=>Eo).trans fun g3 w3 cn=>?_;obtain⟨cC,v,rfl,f3,rfl,F3⟩:=cn;have hsplit:(List.range (m+1)).all (fun i=>fK (cX s (j+i)))=(fK (cX s j)&&(List.range m).all fun i=>fK (cX s (j+1+i))):=by rw[List.range_succ_eq_map,List.all_cons,List.all_map];congr 1;refine congrArg (List.all _) (funext fun i=>?_);show fK (cX s (j+(i+1)))=_;rw[show j+(i+1)=j+1+i by omega]
  rw[hsplit];cases e:fK (cX s j)with
  |false=>rw[e]at F3;refine(nmF.go (Go.Proofs.YtmobbajggkjpgaaGreat.SX.jn [(6,j)] [] [] [(1,s)]) F3 rfl trivial trivial).trans fun g4 w4 c9=>?_;obtain⟨I,B,eg,rfl,f4,F4,_⟩:=c9;refine(leave1 F0 F4 rfl).mono fun g5 w5 d_=>?_;obtain⟨gh,rfl,rfl,hL⟩:=d_;exact⟨gh,rfl,fw.trans (f1.trans (f3.trans f4)),hL⟩
  |true=>
   rw[e]at F3;refine(nmT.go (Go.Proofs.YtmobbajggkjpgaaGreat.SX.jn [(6,j)] [] [] [(1,s)]) F3 rfl trivial trivial).trans fun g4 w4 c9=>?_;obtain⟨I,B,eg,rfl,f4,F4,_⟩:=c9;refine(Gc hs m (j+1) (by omega) (fw.trans (f1.trans (f3.trans f4))) ?_);have e6:iF .add .i64 (j:Int) 1=((j+1:Nat):Int):=by show IntKind.wrap .i64 _=_;rw[iM (by omega)];omega
   rw[<-e6];exact F4
theorem Ep{s:ByteArray}:dS 66 #[.string s] w fun v w'=>bA w w'∧v=.bool (gq s):=by
 refine cF fun cs=>?_;have E:=cz WI rfl (.string s);have fin:∀{k:List Item} {w1:World} {fr:Frame} {x:Bool},bA w w1->FA 66 43 (.code .ret::k) [] .normal [(2,.bool false)] fr->gq s=false->Goes (G fr cs) w1 fun g' w'=>∃fr' v,g'=G fr' cs∧cV 66 fr' w' v∧bA w w'∧v=.bool (gq s):=fun f1 F1 h=>by refine(leave1 F0 F1 rfl).mono fun g5 w5 d_=>?_;obtain⟨gh,rfl,rfl,hL⟩:=d_;exact⟨gh,_,rfl,hL,f1,by rw[h]⟩
 by_cases h1:(s.size:Int)<1
 ·refine(nm1.go (Go.Proofs.YtmobbajggkjpgaaGreat.SX.jn [] [] [] [(1,s)]) E rfl ⟨decide_eq_true h1,trivial⟩ trivial).trans fun g1 w1 hd=>?_;obtain⟨I,B,bT,rfl,f1,F1,_⟩:=hd;exact fin (x:=true) f1 F1 (by
   have:¬(1≤s.size):=by omega
   simp[gq,this])
 by_cases h2:(s.size:Int)>32
 ·refine(nm2.go (Go.Proofs.YtmobbajggkjpgaaGreat.SX.jn [] [] [] [(1,s)]) E rfl ⟨decide_eq_false h1,decide_eq_true h2,trivial⟩ trivial).trans fun g1 w1 hd=>?_;obtain⟨I,B,bT,rfl,f1,F1,_⟩:=hd;exact fin (x:=true) f1 F1 (by
   have:¬(s.size≤32):=by omega
   simp[gq,this])
 refine(nm3.go (Go.Proofs.YtmobbajggkjpgaaGreat.SX.jn [] [] [] [(1,s)]) E rfl ⟨decide_eq_false h1,decide_eq_false h2,trivial⟩ trivial).trans fun g1 w1 hd=>?_;obtain⟨I,B,bT,rfl,f1,F1,_⟩:=hd;refine(sU (s:=s) (j:=0) nmA (bL [] [] []) F1 (by decide) rfl (by omega) fun tm ie=>⟨ie 15 _ rfl,rfl⟩).trans fun g2 w2 bX=>?_;obtain⟨cB,rfl,rfl,F2⟩:=bX;by_cases h3:((cX s 0:Nat):Int)<97
 ·refine(ab2.go (Go.Proofs.YtmobbajggkjpgaaGreat.SX.jn [(2,cX s 0)] [] [] [(1,s)]) F2 rfl ⟨decide_eq_true h3,trivial⟩ trivial).trans fun g3 w3 cn=>?_;obtain⟨I,B,cC,rfl,f3,F3,_⟩:=cn;exact fin (x:=true) (f1.trans f3) F3 (by
   have:¬(97≤cX s 0):=by omega
   simp[gq,this])
 refine(ab3.go (Go.Proofs.YtmobbajggkjpgaaGreat.SX.jn [(2,cX s 0)] [] [] [(1,s)]) F2 rfl ⟨decide_eq_false h3,trivial⟩ trivial).trans fun g3 w3 cn=>?_;obtain⟨I,B,cC,rfl,f3,F3,_⟩:=cn;refine(sU (s:=s) (j:=0) nmB (bL [] [] []) F3 (by decide) rfl (by omega) fun tm ie=>⟨ie 20 _ rfl,rfl⟩).trans fun g4 w4 c9=>?_;obtain⟨eg,rfl,rfl,F4⟩:=c9;by_cases h4:((cX s 0:Nat):Int)>122
 ·refine(ab4.go (Go.Proofs.YtmobbajggkjpgaaGreat.SX.jn [(2,cX s 0)] [] [] [(1,s)]) F4 rfl ⟨decide_eq_true h4,trivial⟩ trivial).trans fun g5 w5 d_=>?_;obtain⟨I,B,gh,rfl,f5,F5,_⟩:=d_;exact fin (x:=true) (f1.trans (f3.trans f5)) F5 (by
   have:¬(cX s 0≤122):=by omega
   simp[gq,this])
 refine(ab5.go (Go.Proofs.YtmobbajggkjpgaaGreat.SX.jn [(2,cX s 0)] [] [] [(1,s)]) F4 rfl ⟨decide_eq_false h4,trivial⟩ trivial).trans fun g5 w5 d_=>?_;obtain⟨I,B,gh,rfl,f5,F5,_⟩:=d_;refine(Gc (s:=s) (by omega) s.size 0 (aG _) (f1.trans (f3.trans f5)) F5).mono fun g6 w6 dj=>?_;obtain⟨dJ,rfl,f6,hL⟩:=dj;refine⟨dJ,_,rfl,hL,f6,?_⟩;have a1:1≤s.size:=by omega
 have a2:s.size≤32:=by omega
 have a3:97≤cX s 0:=by omega
 have a4:cX s 0≤122:=by omega
 simp[gq,a1,a2,a3,a4]
end
theorem wrA:Pc 89 34 [.code (bD Tryz.f89)] [(0,bz 61),(1,i64 (v 6))] [] [(eD 61 0,i8 (v 1))] [] 16 [] [0,1,5,11] [.inRegion (opsOf (K4 28)) [5,6],.code (K4 29),.code (K4 15)] [bz 61,i64 (v 6),i64 (.lit 1),i8 (v 1)] []:={}
theorem wrB:di 34 (opsOf (K4 28)) 5 [(11,.bC 11)] 88 [.bC 11] 12:={}
noncomputable abbrev Ge:List (AA×AV):=[(eD 61 5,sA 50 53 51 52),(eC 50 53 6,bz 62),(eD 62 0,i8 (v 2))]
noncomputable abbrev K7:List Item:=[.inRegion (opsOf (K4 28)) [6],.code (K4 29),.code (K4 15)]
noncomputable abbrev K8:List Item:=[.inRegion (opsOf (K4 30)) [11,12,13,14],.code .ret]
theorem wrC:Pc 89 34 K7 [(0,bz 61),(1,i64 (v 6)),(5,i64 (.lit 1)),(12,i64 (v 3))] (((.cmp .lss (v 3) (.lit 4)),false)::fN 6 51) Ge [] 22 [] [5,30] K8 [i64 (.lit 1),i8 (v 2)] []:={}
theorem wrF:di 34 (opsOf (K4 30)) 11 [(30,.bC 30)] 88 [.bC 30] 31:={}
theorem wrG:Pc 89 34 [.inRegion (opsOf (K4 30)) [12,13,14],.code .ret] [(5,i64 (v 4)),(31,i64 (v 5))] [] [] [] 4 [] [4] [.code .ret] [.bool (.cmp .lss (v 5) (v 4))] []:={}
theorem wrD:Pc 89 34 K7 [(0,bz 61),(1,i64 (v 6)),(5,i64 (.lit 1)),(12,i64 (v 3))] (((.cmp .lss (v 3) (.lit 4)),true)::((.cmp .gtr (v 6) (.lit 0)),false)::fN 6 51) Ge [] 33 [] [5,30] K8 [i64 (v 3),i8 (v 2)] []:={}
theorem wrE:Pc 89 34 K7 [(0,bz 61),(1,i64 (v 6)),(5,i64 (.lit 1)),(12,i64 (v 3))] (((.cmp .lss (v 3) (.lit 4)),true)::((.cmp .gtr (v 6) (.lit 0)),true)::fN 6 51) Ge [] 37 [] [5,30] K8 [i64 (.op .add .i64 (v 3) (.lit 1)),i8 (v 2)] []:={}
section
structure Nd where
 op:Int
 n:Int
 kids:Int
 bY:Int
inductive T where
 |nd(n:Nd)(ks:List T)
def T.n:T->Nd
 |.nd n _=>n
def T.ks:T->List T
 |.nd _ ks=>ks
structure xd(w:World)(U:Nat->Prop)(s:Value)(ps:List Nat):Prop where
 ex:(s=eS∧ps=[])∨∃A o c,U A∧A<w.heap.size∧s=bU A o ps.length c∧ps.length≤c∧∀i p,ps[i]?=some p->w.cell? ⟨A,o+i,none⟩=some (bI p)
mutual
inductive fQ(w:World)(U:Nat->Prop):Nat->T->Prop
 |mk (b:Nat) (n:Nd) (ks:List T) (ps:List Nat) (s:Value) (u:U b) (c0:w.cell? ⟨b,0,none⟩=some (cY n.op)) (c1:w.cell? ⟨b,1,none⟩=some (iV n.n)) (c2:w.cell? ⟨b,2,none⟩=some (iV n.kids)) (c3:w.cell? ⟨b,3,none⟩=some (iV n.bY)) (c5:w.cell? ⟨b,5,none⟩=some s) (hs:xd w U s ps) (hk:dK w U ps ks):fQ w U b (.nd n ks)
inductive dK(w:World)(U:Nat->Prop):List Nat->List T->Prop
 |nil:dK w U [] []
 |cons (p:Nat) (ps:List Nat) (t:T) (ts:List T) (h:fQ w U p t) (hs:dK w U ps ts):dK w U (p::ps) (t::ts)
end
section
variable {w w':World}{U U' own:Nat->Prop}
theorem xd.eH{s:Value}{ps:List Nat}(h:xd w U s ps)(f:bS own w w')(hU:∀x,U x->x<w.heap.size->¬own x∧U' x):xd w' U' s ps:=by
 rcases h.ex with h|⟨A,o,c,u,lt,h1,h2,h3⟩
 ·exact⟨.inl h⟩
 ·exact⟨.inr ⟨A,o,c,(hU A u lt).2,Nat.lt_of_lt_of_le lt f.size,h1,h2,fun i p hi=>iz f (h3 i p hi) (hU A u lt).1⟩⟩
mutual
theorem fQ.eH(f:bS own w w')(hU:∀x,U x->x<w.heap.size->¬own x∧U' x){b:Nat}{t:T}:fQ w U b t->fQ w' U' b t
 |.mk b n ks ps s u c0 c1 c2 c3 c5 hs hk=>
  have hb:=hU b u (k6 c0)
  .mk b n ks ps s hb.2 (iz f c0 hb.1) (iz f c1 hb.1) (iz f c2 hb.1) (iz f c3 hb.1) (iz f c5 hb.1) (hs.eH f hU) (dK.eH f hU hk)
theorem dK.eH(f:bS own w w')(hU:∀x,U x->x<w.heap.size->¬own x∧U' x){ps:List Nat}{ts:List T}:dK w U ps ts->dK w' U' ps ts
 |.nil=>.nil
 |.cons p ps t ts h hs=>.cons p ps t ts (fQ.eH f hU h) (dK.eH f hU hs)
end
theorem fQ.keep(f:bA w w'){b:Nat}{t:T}(h:fQ w U b t):fQ w' U b t:=h.eH f fun x u lt=>⟨fun hh=>by omega,u⟩
theorem dK.keep(f:bA w w'){ps:List Nat}{ts:List T}(h:dK w U ps ts):dK w' U ps ts:=h.eH f fun x u lt=>⟨fun hh=>by omega,u⟩
theorem dK.len:∀{ps:List Nat} {ts:List T},dK w U ps ts->ps.length=ts.length
 |_,_,.nil=>rfl
 |_,_,.cons p ps t ts h hs=>by simp only[aC,dK.len hs]
theorem dK.get:∀{ps:List Nat} {ts:List T},dK w U ps ts->∀{i:Nat} {t:T},ts[i]?=some t->∃p,ps[i]?=some p∧fQ w U p t
 |_,_,.nil,i,t,h=>by cases h
 |_,_,.cons p ps t' ts h hs,0,t,e=>by obtain rfl:t'=t:=au e;exact⟨p,rfl,h⟩
 |_,_,.cons p ps t' ts h hs,i+1,t,e=>dK.get hs (i:=i) e
theorem dK.snoc:∀{ps:List Nat} {ts:List T} {p:Nat} {t:T},dK w U ps ts->fQ w U p t->dK w U (ps++[p]) (ts++[t])
 |_,_,p,t,.nil,h=>.cons p [] t [] h .nil
 |_,_,p,t,.cons p' ps t' ts h' hs,h=>.cons p' _ t' _ h' (dK.snoc hs h)
end
theorem cg{ρ:Env}{i n I N:Nat}(hi:ρ.i i=(I:Int))(hn:ρ.i n=(N:Int))(h:I<N):cr ρ [((.cmp .lss (v i) (.tn (v n))),true),((.cmp .leq (.lit 0) (v i)),true),((.cmp .lss (v i) (.lit 0)),false),((.cmp .geq (v i) (.tn (v n))),false)]:=by
 refine⟨?_,?_,?_,?_,trivial⟩
 ·show decide (ρ.i i<(((ρ.i n).toNat:Nat):Int))=true;rw[hi,hn];exact decide_eq_true (by omega)
 ·show decide ((0:Int)≤ρ.i i)=true;rw[hi];exact decide_eq_true (by omega)
 ·show decide (ρ.i i<0)=false;rw[hi];exact decide_eq_false (by omega)
 ·show decide (ρ.i i≥(((ρ.i n).toNat:Nat):Int))=false;rw[hi,hn];exact decide_eq_false (by omega)
theorem inc{i:Nat}(h:i<1000000000000000):iF .add .i64 (i:Int) 1=((i+1:Nat):Int):=by show IntKind.wrap .i64 ((i:Int)+1)=_;rw[iM (by omega)];omega
def ee(op:Int)(i:Nat):Int:=if ck op<4 then(if i>0 then ck op+1 else ck op)else 1
theorem xe(op:Int):1≤ck op∧ck op≤4:=by
 unfold ck
 repeat (first|(split; · decide)|decide)
def Gf(t:T)(i:Nat)(k:T):Bool:=decide (ck k.n.op<ee t.n.op i)
section
variable {w:World}{cs:List Frame}{fr:Frame}
theorem Cc{U:Nat->Prop}{b i:Nat}{t k:T}(h:fQ w U b t)(hk:t.ks[i]?=some k)(hl:t.ks.length≤1000000):dS 89 #[bI b,iV i] w fun v w'=>bA w w'∧v=.bool (Gf t i k):=by
 obtain⟨b,n,ks,ps,s,u,c0,c1,c2,c3,c5,hs,hks⟩:=h;obtain⟨p,hp,hpk⟩:=hks.get hk;obtain⟨p,m,ks',ps',s',u',d0,d1,d2,d3,d5,hs',amG⟩:=hpk;have hlt:i<ps.length:=(aq.1 hp).1;rcases hs.ex with⟨_,rfl⟩|⟨A,o,c,uA,lA,rfl,hc,cL⟩
 ·cases hp
 have hlen:ps.length≤1000000:=by rw[hks.len];exact hl
 have hr:=xe n.op;refine cF fun cs=>?_;refine(wrA.go (bL [(6,i),(1,n.op)] [(61,b)] []) (dV WJ rfl (bI b) (iV i)) rfl trivial ⟨c0,trivial⟩).trans fun g1 w1 hd=>?_;obtain⟨I,B,bT,rfl,f1,F1,_⟩:=hd;refine(wrB.go (bL [] [] [(11,cY n.op)]) (Q:=fun v w'=>v=iV (ck n.op)) F1 rfl fun w' f1=>sS).trans fun g2 w2 bX=>?_;obtain⟨cB,v,rfl,f2,rfl,F2⟩:=bX;have f12:=f1.trans f2;obtain⟨ρ,hρ⟩:∃ρ:Env,ρ=bL [(6,i),(3,ck n.op),(51,ps.length),(52,c),(53,o),(2,m.op)] [(61,b),(50,A),(62,p)] []:=⟨_,rfl⟩;have mm:cw ρ w2 Ge:=by rw[hρ];exact⟨f12.cell c5,f12.cell (cL i p hp),f12.cell d0,trivial⟩
 have bb:=cg (ρ:=ρ) (i:=6) (n:=51) (I:=i) (N:=ps.length) (by rw[hρ];rfl) (by rw[hρ];rfl) hlt;have rest:∀{w3:World} {cC:Frame} {x:Int},bA w2 w3->FA 89 34 (.inRegion (opsOf (K4 30)) [11,12,13,14]::[.code .ret]) [] .normal [(5,iV x),(30,cY m.op)] cC->x=ee n.op i->Goes (G cC cs) w3 fun g' w'=>∃fr' v,g'=G fr' cs∧cV 89 fr' w' v∧bA w w'∧v=.bool (Gf (.nd n ks) i (.nd m ks')):=fun{w3 cC x} f3 F3 hx=>by refine(wrF.go (bL [] [] [(30,cY m.op)]) (Q:=fun v w'=>v=iV (ck m.op)) F3 rfl fun w' f1=>sS).trans fun g4 w4 c9=>?_;obtain⟨eg,v,rfl,f4,rfl,F4⟩:=c9;refine(wrG.go (bL [(4,x),(5,ck m.op)] [] []) F4 rfl trivial trivial).trans fun g5 w5 d_=>?_;obtain⟨I,B,gh,rfl,f5,F5,_⟩:=d_;refine(leave1 WK F5 rfl).mono fun g6 w6 dj=>?_;obtain⟨dJ,rfl,rfl,hL⟩:=dj;exact⟨dJ,_,rfl,hL,f12.trans (f3.trans (f4.trans f5)),by subst hx;rfl⟩
 by_cases h4:ck n.op<4
 ·by_cases h0:(i:Int)>0
  ·refine(wrE.go ρ F2 (by rw[hρ];rfl) ⟨by rw[hρ];exact decide_eq_true h4,by rw[hρ];exact decide_eq_true h0,bb⟩ mm).trans fun g3 w3 cn=>?_;obtain⟨I,B,cC,rfl,f3,F3,_⟩:=cn;refine rest (x:=iF .add .i64 (ck n.op) 1) f3 (by rw[hρ]at F3;exact F3) ?_;unfold ee;rw[if_pos h4,if_pos (by omega)];exact iM (by omega)
  ·refine(wrD.go ρ F2 (by rw[hρ];rfl) ⟨by rw[hρ];exact decide_eq_true h4,by rw[hρ];exact decide_eq_false h0,bb⟩ mm).trans fun g3 w3 cn=>?_;obtain⟨I,B,cC,rfl,f3,F3,_⟩:=cn;refine rest (x:=ck n.op) f3 (by rw[hρ]at F3;exact F3) ?_;unfold ee;rw[if_pos h4,if_neg (by omega)]
 ·refine(wrC.go ρ F2 (by rw[hρ];rfl) ⟨by rw[hρ];exact decide_eq_false h4,bb⟩ mm).trans fun g3 w3 cn=>?_;obtain⟨I,B,cC,rfl,f3,F3,_⟩:=cn;refine rest (x:=1) f3 (by rw[hρ]at F3;exact F3) ?_;unfold ee;rw[if_neg h4]
end
end
noncomputable def jc(l:Nat):Code:=pc (bD Tryz.f68) (pd l)
theorem WV:bP Tryz.prog 68 [.bC 0,.bC 1] .normal=.ok ⟨68,87,c8 68 [.bC 0,.bC 1],[.code (bD Tryz.f68)],[],.run,.normal⟩:=by kernel_rfl
theorem PY:sP 68 87 4 5:=fun st=>by kernel_rfl
theorem dpA:Pc 68 87 [.code (bD Tryz.f68)] [(0,bz 61),(1,i64 (v 7))] [] [(eD 61 0,i8 (v 2))] [] 12 [] [0,1,5,16] [.inRegion (opsOf (jc 6)) [5,6],.code (jc 7)] [bz 61,i64 (v 7),i64 (.lit 0),i8 (v 2)] []:={}
theorem dpB:di 87 (opsOf (jc 6)) 5 [(16,.bC 16)] 88 [.bC 16] 17:={}
noncomputable abbrev oK:List Item:=[.code (jc 500),.inLoop (jc 500),.inBlock 0,.code (jc 63)]
noncomputable abbrev Cd:List Item:=[.inRegion (opsOf (jc 6)) [6],.code (jc 7)]
theorem ab6:Pc 68 87 Cd [(0,bz 61),(1,i64 (v 7)),(5,i64 (.lit 0)),(17,i64 (v 3))] [((.cmp .gtr (v 3) (.lit 2)),false)] [(eD 61 5,sA 50 53 51 52)] [] 35 [] [0,1,4,5,6,34,35,36] oK [bz 61,i64 (v 7),i64 (v 7),i64 (.lit 0),i64 (v 3),sA 50 53 51 52,i64 (.tn (v 51)),i64 (.lit 0)] []:={}
theorem ab7:Pc 68 87 Cd [(0,bz 61),(1,i64 (v 7)),(5,i64 (.lit 0)),(17,i64 (v 3))] [((.cmp .gtr (v 3) (.lit 2)),true),((.cmp .gtr (.tn (v 51)) (.lit 0)),false)] [(eD 61 5,sA 50 53 51 52)] [] 35 [] [0,1,4,5,6,34,35,36] oK [bz 61,i64 (v 7),i64 (v 7),i64 (.lit 0),i64 (v 3),sA 50 53 51 52,i64 (.tn (v 51)),i64 (.lit 0)] []:={}
theorem ab8:Pc 68 87 Cd [(0,bz 61),(1,i64 (v 7)),(5,i64 (.lit 0)),(17,i64 (v 3))] [((.cmp .gtr (v 3) (.lit 2)),true),((.cmp .gtr (.tn (v 51)) (.lit 0)),true)] [(eD 61 5,sA 50 53 51 52)] [] 39 [] [0,1,4,5,6,34,35,36] oK [bz 61,i64 (.op .add .i64 (v 7) (.lit 1)),i64 (.op .add .i64 (v 7) (.lit 1)),i64 (.lit 0),i64 (v 3),sA 50 53 51 52,i64 (.tn (v 51)),i64 (.lit 0)] []:={}
theorem ab9:Pc 68 87 Cd [(0,bz 61),(1,i64 (v 7)),(5,i64 (.lit 0)),(17,i64 (v 3))] [((.cmp .gtr (v 3) (.lit 2)),false)] [(eD 61 5,cj)] [] 35 [] [0,1,4,5,6,34,35,36] oK [bz 61,i64 (v 7),i64 (v 7),i64 (.lit 0),i64 (v 3),cj,i64 (.lit 0),i64 (.lit 0)] []:={}
theorem ab_:Pc 68 87 Cd [(0,bz 61),(1,i64 (v 7)),(5,i64 (.lit 0)),(17,i64 (v 3))] [((.cmp .gtr (v 3) (.lit 2)),true)] [(eD 61 5,cj)] [] 35 [] [0,1,4,5,6,34,35,36] oK [bz 61,i64 (v 7),i64 (v 7),i64 (.lit 0),i64 (v 3),cj,i64 (.lit 0),i64 (.lit 0)] []:={}
noncomputable abbrev RF:List Item:=[.inRegion (opsOf (jc 256412)) [2],.code (jc 256413),.code (jc 128207),.inBlock 1,.code (jc 4007),.inLoop (jc 500),.inBlock 0,.code (jc 63)]
theorem ab':Pc 68 87 oK [(0,bz 61),(1,i64 (v 7)),(4,i64 (v 8)),(5,i64 (v 9)),(6,i64 (v 3)),(34,sA 50 53 51 52),(35,i64 (.tn (v 51))),(36,i64 (v 10))] (fN 10 51++[((.cmp .lss (v 3) (.lit 3)),false)]) [(eC 50 53 10,bz 62)] [] 39 [] [0,1,4,5,6,7,8,9,34,35,36,51,52] RF [bz 61,i64 (v 7),i64 (v 8),i64 (v 9),i64 (v 3),i64 (v 10),bz 62,i64 (v 7),sA 50 53 51 52,i64 (.tn (v 51)),i64 (v 10),bz 61,i64 (v 10)] []:={}
theorem acd:Pc 68 87 oK [(0,bz 61),(1,i64 (v 7)),(4,i64 (v 8)),(5,i64 (v 9)),(6,i64 (v 3)),(34,sA 50 53 51 52),(35,i64 (.tn (v 51))),(36,i64 (v 10))] (fN 10 51++[((.cmp .lss (v 3) (.lit 3)),true),((.cmp .eql (v 10) (.lit 1)),false)]) [(eC 50 53 10,bz 62)] [] 39 [] [0,1,4,5,6,7,8,9,34,35,36,51,52] RF [bz 61,i64 (v 7),i64 (v 8),i64 (v 9),i64 (v 3),i64 (v 10),bz 62,i64 (v 7),sA 50 53 51 52,i64 (.tn (v 51)),i64 (v 10),bz 61,i64 (v 10)] []:={}
theorem ace:Pc 68 87 oK [(0,bz 61),(1,i64 (v 7)),(4,i64 (v 8)),(5,i64 (v 9)),(6,i64 (v 3)),(34,sA 50 53 51 52),(35,i64 (.tn (v 51))),(36,i64 (v 10))] (fN 10 51++[((.cmp .lss (v 3) (.lit 3)),true),((.cmp .eql (v 10) (.lit 1)),true)]) [(eC 50 53 10,bz 62)] [] 44 [] [0,1,4,5,6,7,8,9,34,35,36,51,52] RF [bz 61,i64 (v 7),i64 (v 8),i64 (v 9),i64 (v 3),i64 (v 10),bz 62,i64 (.op .add .i64 (v 7) (v 9)),sA 50 53 51 52,i64 (.tn (v 51)),i64 (v 10),bz 61,i64 (v 10)] []:={}
theorem dpS:di 87 (opsOf (jc 256412)) 2 [(51,.bC 51),(52,.bC 52)] 89 [.bC 51,.bC 52] 53:={}
noncomputable abbrev WW:List Item:=[.inRegion (opsOf (jc 256412)) [],.code (jc 256413),.code (jc 128207),.inBlock 1,.code (jc 4007),.inLoop (jc 500),.inBlock 0,.code (jc 63)]
noncomputable abbrev WX:List Item:=[.inRegion (opsOf (jc 256414)) [2,3,4,5,6,7],.code (jc 256415),.inBlock 1,.code (jc 4007),.inLoop (jc 500),.inBlock 0,.code (jc 63)]
theorem acf:Pc 68 87 WW [(0,bz 61),(1,i64 (v 7)),(4,i64 (v 8)),(5,i64 (v 9)),(6,i64 (v 3)),(7,i64 (v 10)),(8,bz 62),(9,i64 (v 11)),(34,sA 50 53 51 52),(35,i64 (.tn (v 51))),(36,i64 (v 10)),(53,FB)] [] [] [] 7 [] [0,1,4,5,6,7,8,9,34,35,36,57,58] WX [bz 61,i64 (v 7),i64 (v 8),i64 (v 9),i64 (v 3),i64 (v 10),bz 62,i64 (v 11),sA 50 53 51 52,i64 (.tn (v 51)),i64 (v 10),bz 62,i64 (v 11)] []:={}
theorem acg:Pc 68 87 WW [(0,bz 61),(1,i64 (v 7)),(4,i64 (v 8)),(5,i64 (v 9)),(6,i64 (v 3)),(7,i64 (v 10)),(8,bz 62),(9,i64 (v 11)),(34,sA 50 53 51 52),(35,i64 (.tn (v 51))),(36,i64 (v 10)),(53,TB)] [] [] [] 11 [] [0,1,4,5,6,7,8,9,34,35,36,57,58] WX [bz 61,i64 (v 7),i64 (v 8),i64 (v 9),i64 (v 3),i64 (v 10),bz 62,i64 (.op .add .i64 (v 11) (.lit 1)),sA 50 53 51 52,i64 (.tn (v 51)),i64 (v 10),bz 62,i64 (.op .add .i64 (v 11) (.lit 1))] []:={}
theorem dpU:di 87 (opsOf (jc 256414)) 2 [(57,.bC 57),(58,.bC 58)] 68 [.bC 57,.bC 58] 59:={}
noncomputable abbrev RG:List Item:=[.inRegion (opsOf (jc 256414)) [3,4,5,6,7],.code (jc 256415),.inBlock 1,.code (jc 4007),.inLoop (jc 500),.inBlock 0,.code (jc 63)]
noncomputable abbrev Ob:List Item:=[.inRegion (opsOf (jc 512831)) [3,4],.inBlock 1,.code (jc 4007),.inLoop (jc 500),.inBlock 0,.code (jc 63)]
theorem ach:Pc 68 87 RG [(0,bz 61),(1,i64 (v 7)),(4,i64 (v 8)),(5,i64 (v 9)),(6,i64 (v 3)),(7,i64 (v 10)),(8,bz 62),(9,i64 (v 11)),(34,sA 50 53 51 52),(35,i64 (.tn (v 51))),(36,i64 (v 10)),(59,.tuple [i64 (v 12),i64 (v 13)])] [((.cmp .eql (v 10) (.lit 0)),false)] [] [] 32 [] [0,1,5,6,34,35,36,79,80,81] Ob [bz 61,i64 (v 7),i64 (v 9),i64 (v 3),sA 50 53 51 52,i64 (.tn (v 51)),i64 (v 10),i64 (v 8),i64 (v 12),i64 (v 11)] []:={}
theorem aci:Pc 68 87 RG [(0,bz 61),(1,i64 (v 7)),(4,i64 (v 8)),(5,i64 (v 9)),(6,i64 (v 3)),(7,i64 (v 10)),(8,bz 62),(9,i64 (v 11)),(34,sA 50 53 51 52),(35,i64 (.tn (v 51))),(36,i64 (v 10)),(59,.tuple [i64 (v 12),i64 (v 13)])] [((.cmp .eql (v 10) (.lit 0)),true),((.cmp .lss (v 3) (.lit 3)),false)] [] [] 32 [] [0,1,5,6,34,35,36,79,80,81] Ob [bz 61,i64 (v 7),i64 (v 9),i64 (v 3),sA 50 53 51 52,i64 (.tn (v 51)),i64 (v 10),i64 (v 8),i64 (v 12),i64 (v 11)] []:={}
theorem dpW:jO 87 (opsOf (jc 512831)) 3 [] (.call {callee:=.builtin .max,args:=#[.tmp 79,.tmp 80,.tmp 81],argTypes:=#[3,3,3]}) 3 (some 82):={}
theorem dpX:Pc 68 87 RG [(0,bz 61),(1,i64 (v 7)),(4,i64 (v 8)),(5,i64 (v 9)),(6,i64 (v 3)),(7,i64 (v 10)),(8,bz 62),(9,i64 (v 11)),(34,sA 50 53 51 52),(35,i64 (.tn (v 51))),(36,i64 (v 10)),(59,.tuple [i64 (v 12),i64 (v 13)])] [((.cmp .eql (v 10) (.lit 0)),true),((.cmp .lss (v 3) (.lit 3)),true)] [(eD 62 0,i8 (v 14))] [] 21 [] [0,1,4,5,6,7,8,9,10,11,34,35,36,68,73] [.inRegion (opsOf (jc 1025660)) [12,13,14,15],.code (jc 1025661),.code (jc 512831),.inBlock 1,.code (jc 4007),.inLoop (jc 500),.inBlock 0,.code (jc 63)] [bz 61,i64 (v 7),i64 (v 8),i64 (v 9),i64 (v 3),i64 (v 10),bz 62,i64 (v 11),i64 (v 12),i64 (v 13),sA 50 53 51 52,i64 (.tn (v 51)),i64 (v 10),TB,i8 (v 14)] []:={}
theorem dpY:di 87 (opsOf (jc 1025660)) 12 [(68,TB),(73,.bC 73)] 88 [.bC 73] 74:={}
noncomputable abbrev WY:List Item:=[.inRegion (opsOf (jc 1025660)) [13,14,15],.code (jc 1025661),.code (jc 512831),.inBlock 1,.code (jc 4007),.inLoop (jc 500),.inBlock 0,.code (jc 63)]
theorem acj:Pc 68 87 WY [(0,bz 61),(1,i64 (v 7)),(4,i64 (v 8)),(5,i64 (v 9)),(6,i64 (v 3)),(7,i64 (v 10)),(8,bz 62),(9,i64 (v 11)),(34,sA 50 53 51 52),(35,i64 (.tn (v 51))),(36,i64 (v 10)),(10,i64 (v 12)),(11,i64 (v 13)),(68,TB),(74,i64 (v 15))] [((.cmp .eql (v 15) (v 3)),false)] [] [] 10 [] [0,1,5,6,34,35,36,79,80,81] Ob [bz 61,i64 (v 7),i64 (v 9),i64 (v 3),sA 50 53 51 52,i64 (.tn (v 51)),i64 (v 10),i64 (v 8),i64 (v 12),i64 (v 11)] []:={}
theorem ack:Pc 68 87 WY [(0,bz 61),(1,i64 (v 7)),(4,i64 (v 8)),(5,i64 (v 9)),(6,i64 (v 3)),(7,i64 (v 10)),(8,bz 62),(9,i64 (v 11)),(34,sA 50 53 51 52),(35,i64 (.tn (v 51))),(36,i64 (v 10)),(10,i64 (v 12)),(11,i64 (v 13)),(68,TB),(74,i64 (v 15))] [((.cmp .eql (v 15) (v 3)),true)] [] [] 13 [] [0,1,5,6,34,35,36,79,80,81] Ob [bz 61,i64 (v 7),i64 (v 13),i64 (v 3),sA 50 53 51 52,i64 (.tn (v 51)),i64 (v 10),i64 (v 8),i64 (v 12),i64 (v 11)] []:={}
theorem dpK:Pc 68 87 [.inRegion (opsOf (jc 512831)) [4],.inBlock 1,.code (jc 4007),.inLoop (jc 500),.inBlock 0,.code (jc 63)] [(0,bz 61),(1,i64 (v 7)),(5,i64 (v 9)),(6,i64 (v 3)),(34,sA 50 53 51 52),(35,i64 (.tn (v 51))),(36,i64 (v 10)),(82,i64 (v 16))] [] [] [] 8 [] [0,1,4,5,6,34,35,36] oK [bz 61,i64 (v 7),i64 (v 16),i64 (v 9),i64 (v 3),sA 50 53 51 52,i64 (.tn (v 51)),i64 (.op .add .i64 (v 10) (.lit 1))] []:={}
abbrev Ce:List (BE×Bool):=[((.cmp .lss (v 10) (.tn (v 51))),false)]
theorem dpE:Pc 68 87 oK [(0,bz 61),(1,i64 (v 7)),(4,i64 (v 8)),(5,i64 (v 9)),(6,i64 (v 3)),(34,sA 50 53 51 52),(35,i64 (.tn (v 51))),(36,i64 (v 10))] Ce [] [] 15 [] [4,5] [.code .ret] [i64 (v 8),i64 (.op .add .i64 (v 9) (.lit 1))] []:={}
theorem acm:Pc 68 87 oK [(0,bz 61),(1,i64 (v 7)),(4,i64 (v 8)),(5,i64 (v 9)),(6,i64 (v 3)),(34,cj),(35,i64 (.lit 0)),(36,i64 (.lit 0))] [] [] [] 15 [] [4,5] [.code .ret] [i64 (v 8),i64 (.op .add .i64 (v 9) (.lit 1))] []:={}
def ek(a b:Int):Int:=iF .add .i64 a b
def max2(a b:Int):Int:=if b>a then b else a
mutual
def flat:T->List Nd
 |.nd n ks=>n::bW ks
def bW:List T->List Nd
 |[]=>[]
 |k::ks=>flat k++bW ks
end
mutual
def cy:T->Int->Int×Int
 |.nd n ks,d=>((eU n.op (if ck n.op>2∧ks≠[]then ek d 1 else d) 0 ks (if ck n.op>2∧ks≠[]then ek d 1 else d) 0).1,ek (eU n.op (if ck n.op>2∧ks≠[]then ek d 1 else d) 0 ks (if ck n.op>2∧ks≠[]then ek d 1 else d) 0).2 1)
def eU(op d:Int):Nat->List T->Int->Int->Int×Int
 |i,[],most,marks=>(most,marks)
 |i,k::ks,most,marks=>
  let a1:=if ck op<3∧i=1 then ek d marks else d
  let a2:=if decide (ck k.n.op<ee op i)then ek a1 1 else a1
  let r:=cy k a2
  eU op d (i+1) ks (max2 (max2 most r.1) a2) (if i=0∧ck op<3∧ck k.n.op=ck op then r.2 else marks)
end
theorem fX:∀ks:List T,ks.length≤(bW ks).length
 |[]=>ax _
 |.nd n l::ks=>by have:=fX ks;simp only[bW,flat,aC,ak];omega
noncomputable abbrev dpH:List Item:=oK
section
variable {w:World}{cs:List Frame}{fr:Frame}
theorem Oc{Ev:Event->Prop}{E:Value->World->Prop}{a b c:Int}{ts:Array TypeId}{ty:TypeId}{Q:Value->World->Prop}(hq:Q (iV (max2 (max2 a b) c)) w):wq Tryz.prog Ev E (Builtin.max_ ts ty #[iV a,iV b,iV c]) Q w:=by simp only[Builtin.max_,iV,List.foldlM_cons,List.foldlM_nil,Builtin.max2,bF,bG];exact hq
theorem dG{α:Type}{l:List α}{i:Nat}{a:α}{r:List α}(h:l.drop i=a::r):l[i]?=some a∧l.drop (i+1)=r∧i<l.length:=by
 have h1:l[i]?=some a:=by have:=congrArg (·[0]?) h;simpa using this
 refine⟨h1,?_,(aq.1 h1).1⟩;have:=congrArg List.tail h;rw[List.tail_drop]at this;simpa using this
mutual
theorem Cf:∀(t:T) {w:World} {U:Nat->Prop} {b:Nat} {d:Int},fQ w U b t->(flat t).length≤1000000->dS 68 #[bI b,iV d] w fun v w'=>bA w w'∧v=.tuple #[iV (cy t d).1,iV (cy t d).2]
 |.nd n ks,w,U,b,d,h,hl=>by
  have h':=h;obtain⟨b,n,ks,ps,s,u,c0,c1,c2,c3,c5,hs,hks⟩:=h;have hlen:(bW ks).length≤1000000:=by simp only[flat,aC]at hl;omega
  have hlk:=fX ks;refine cF fun cs=>?_;refine(dpA.go (bL [(7,d),(2,n.op)] [(61,b)] []) (dV WV rfl (bI b) (iV d)) rfl trivial ⟨c0,trivial⟩).trans fun g1 w1 hd=>?_;obtain⟨I,B,bT,rfl,f1,F1,_⟩:=hd;refine(dpB.go (bL [] [] [(16,cY n.op)]) (Q:=fun v w'=>v=iV (ck n.op)) F1 rfl fun w' f1=>sS).trans fun g2 w2 bX=>?_;obtain⟨cB,v,rfl,f2,rfl,F2⟩:=bX;have f12:=f1.trans f2;rcases hs.ex with⟨rfl,rfl⟩|⟨A,o,c,uA,lA,rfl,hc,cL⟩
  ·obtain rfl:ks=[]:=bw hks.len.symm;have e0:cy (.nd n []) d=(d,ek 0 1):=by simp[cy,eU]
   rw[e0];have fin:∀{w3:World} {cC:Frame},bA w2 w3->FA 68 87 dpH [] .normal [(0,bI b),(1,iV d),(4,iV d),(5,iV 0),(6,iV (ck n.op)),(34,eS),(35,iV 0),(36,iV 0)] cC->Goes (G cC cs) w3 fun g' w'=>∃fr' v,g'=G fr' cs∧cV 68 fr' w' v∧bA w w'∧v=.tuple #[iV d,iV (ek 0 1)]:=fun{w3 cC} f3 F3=>by refine(acm.go (bL [(7,d),(8,d),(9,0),(3,ck n.op)] [(61,b)] []) F3 rfl trivial trivial).trans fun g4 w4 c9=>?_;obtain⟨I,B,eg,rfl,f4,F4,_⟩:=c9;refine(iN PY F4 rfl rfl).mono fun g6 w6 dj=>?_;obtain⟨dJ,rfl,rfl,hL⟩:=dj;exact⟨dJ,_,rfl,hL,f12.trans (f3.trans f4),rfl⟩
   by_cases h2:ck n.op>2
   ·refine(ab_.go (bL [(7,d),(3,ck n.op)] [(61,b)] []) F2 rfl ⟨decide_eq_true h2,trivial⟩ ⟨f12.cell c5,trivial⟩).trans fun g3 w3 cn=>?_;obtain⟨I,B,cC,rfl,f3,F3,_⟩:=cn;exact fin f3 F3
   ·refine(ab9.go (bL [(7,d),(3,ck n.op)] [(61,b)] []) F2 rfl ⟨decide_eq_false h2,trivial⟩ ⟨f12.cell c5,trivial⟩).trans fun g3 w3 cn=>?_;obtain⟨I,B,cC,rfl,f3,F3,_⟩:=cn;exact fin f3 F3
  ·obtain⟨ρ,hρ⟩:∃ρ:Env,ρ=bL [(7,d),(3,ck n.op),(51,ps.length),(52,c),(53,o)] [(61,b),(50,A)] []:=⟨_,rfl⟩;have ed:∀{x:Int},x=(if ck n.op>2∧ks≠[]then ek d 1 else d)->cy (.nd n ks) d=((eU n.op x 0 ks x 0).1,ek (eU n.op x 0 ks x 0).2 1):=fun h=>by
    subst h;simp only[cy]
   have go:∀{w3:World} {cC:Frame} {x:Int},bA w2 w3->x=(if ck n.op>2∧ks≠[]then ek d 1 else d)->FA 68 87 dpH [] .normal [(0,bI b),(1,iV x),(4,iV x),(5,iV 0),(6,iV (ck n.op)),(34,bU A o ps.length c),(35,iV ps.length),(36,iV 0)] cC->Goes (G cC cs) w3 fun g' w'=>∃fr' v,g'=G fr' cs∧cV 68 fr' w' v∧bA w w'∧v=.tuple #[iV (cy (.nd n ks) d).1,iV (cy (.nd n ks) d).2]:=fun{w3 cC x} f3 hx F3=>by rw[ed hx];refine(zp ks (i:=0) h' hks cL rfl (by omega) hlen (f12.trans f3) F3).mono fun g4 w4 c9=>?_;obtain⟨eg,rfl,f4,hL⟩:=c9;exact⟨eg,_,rfl,hL,f4,rfl⟩
   have hk0:ks≠[]↔0<ps.length:=by rw[hks.len];exact List.length_pos_iff.symm
   by_cases h2:ck n.op>2
   ·by_cases h0:((ps.length:Nat):Int)>0
    ·refine(ab8.go ρ F2 (by rw[hρ];rfl) ⟨by rw[hρ];exact decide_eq_true h2,by rw[hρ];exact decide_eq_true h0,trivial⟩ ⟨by rw[hρ];exact f12.cell c5,trivial⟩).trans fun g3 w3 cn=>?_;obtain⟨I,B,cC,rfl,f3,F3,_⟩:=cn;exact go (x:=ek d 1) f3 (by rw[if_pos ⟨h2,hk0.2 (by omega)⟩]) (by rw[hρ]at F3;exact F3)
    ·refine(ab7.go ρ F2 (by rw[hρ];rfl) ⟨by rw[hρ];exact decide_eq_true h2,by rw[hρ];exact decide_eq_false h0,trivial⟩ ⟨by rw[hρ];exact f12.cell c5,trivial⟩).trans fun g3 w3 cn=>?_;obtain⟨I,B,cC,rfl,f3,F3,_⟩:=cn;exact go (x:=d) f3 (by rw[if_neg fun hh=>by have:=hk0.1 hh.2;omega]) (by rw[hρ]at F3;exact F3)
   ·refine(ab6.go ρ F2 (by rw[hρ];rfl) ⟨by rw[hρ];exact decide_eq_false h2,trivial⟩ ⟨by rw[hρ];exact f12.cell c5,trivial⟩).trans fun g3 w3 cn=>?_;obtain⟨I,B,cC,rfl,f3,F3,_⟩:=cn;exact go (x:=d) f3 (by rw[if_neg fun hh=>h2 hh.1]) (by rw[hρ]at F3;exact F3)
theorem zp:∀(ks:List T) {n:Nd} {all:List T} {U:Nat->Prop} {b A o c i:Nat} {ps:List Nat} {d most marks:Int} {w0 w:World} {cs:List Frame} {fr:Frame},fQ w0 U b (.nd n all)->dK w0 U ps all->(∀i p,ps[i]?=some p->w0.cell? ⟨A,o+i,none⟩=some (bI p))->all.drop i=ks->all.length≤1000000->(bW ks).length≤1000000->bA w0 w->
  FA 68 87 dpH [] .normal [(0,bI b),(1,iV d),(4,iV most),(5,iV marks),(6,iV (ck n.op)),(34,bU A o ps.length c),(35,iV ps.length),(36,iV i)] fr->
  Goes (G fr cs) w fun g' w'=>∃fr',g'=G fr' cs∧bA w0 w'∧cV 68 fr' w' (.tuple #[iV (eU n.op d i ks most marks).1,iV (ek (eU n.op d i ks most marks).2 1)])
 |[],n,all,U,b,A,o,c,i,ps,d,most,marks,w0,w,cs,fr,ht,hks,cL,Od,hla,hfl,fw,hf=>by
  have hi:ps.length≤i:=by rw[hks.len];exact aU.1 Od
  obtain⟨ρ,hρ⟩:∃ρ:Env,ρ=bL [(7,d),(8,most),(9,marks),(3,ck n.op),(51,ps.length),(52,c),(53,o),(10,i)] [(61,b),(50,A)] []:=⟨_,rfl⟩;refine(dpE.go ρ hf (by rw[hρ];rfl) ⟨by rw[hρ];exact decide_eq_false (by show ¬((i:Int)<((ps.length:Nat):Int));omega),trivial⟩ trivial).trans fun g4 w4 c9=>?_;obtain⟨I,B,eg,rfl,f4,F4,_⟩:=c9;rw[hρ]at F4;refine(iN PY F4 rfl rfl).mono fun g6 w6 dj=>?_;obtain⟨dJ,rfl,rfl,hL⟩:=dj;exact⟨dJ,rfl,fw.trans f4,hL⟩
 |k::ks,n,all,U,b,A,o,c,i,ps,d,most,marks,w0,w,cs,fr,ht,hks,cL,Od,hla,hfl,fw,hf=>by
  obtain⟨hk,oJ,hi⟩:=dG Od;obtain⟨p,hp,hpk⟩:=hks.get hk;have hip:i<ps.length:=(aq.1 hp).1;have hfk:(flat k).length≤1000000:=by simp only[bW,ak]at hfl;omega
  have aco:(bW ks).length≤1000000:=by simp only[bW,ak]at hfl;omega
  have bb:∀{ρ:Env},ρ=bL [(7,d),(8,most),(9,marks),(3,ck n.op),(51,ps.length),(52,c),(53,o),(10,i)] [(61,b),(50,A),(62,p)] []->cr ρ _:=fun{ρ} hρ=>cg (ρ:=ρ) (i:=10) (n:=51) (I:=i) (N:=ps.length) (by rw[hρ];rfl) (by rw[hρ];rfl) hip;obtain⟨ρ,hρ⟩:∃ρ:Env,ρ=bL [(7,d),(8,most),(9,marks),(3,ck n.op),(51,ps.length),(52,c),(53,o),(10,i)] [(61,b),(50,A),(62,p)] []:=⟨_,rfl⟩;have mm:cw ρ w [(eC 50 53 10,bz 62)]:=by rw[hρ];exact⟨fw.cell (cL i p hp),trivial⟩
  have K9:∀{a1:Int} {w3:World} {cC:Frame},a1=(if ck n.op<3∧i=1 then ek d marks else d)->bA w0 w3->FA 68 87 (.inRegion (opsOf (jc 256412)) [2]::[.code (jc 256413),.code (jc 128207),.inBlock 1,.code (jc 4007),.inLoop (jc 500),.inBlock 0,.code (jc 63)]) [] .normal [(0,bI b),(1,iV d),(4,iV most),(5,iV marks),(6,iV (ck n.op)),(7,iV i),(8,bI p),(9,iV a1),(34,bU A o ps.length c),(35,iV ps.length),(36,iV i),(51,bI b),(52,iV i)] cC->
    Goes (G cC cs) w3 fun g' w'=>∃fr',g'=G fr' cs∧bA w0 w'∧cV 68 fr' w' (.tuple #[iV (eU n.op d i (k::ks) most marks).1,iV (ek (eU n.op d i (k::ks) most marks).2 1)]):=fun{a1 w3 cC} ha f3 F3=>by
   refine(dpS.go (bL [] [] [(51,bI b),(52,iV i)]) (Q:=fun v w'=>v=.bool (Gf (.nd n all) i k)) F3 rfl fun w' f4=>Cc (fQ.keep (f3.trans f4) ht) hk hla).trans fun g4 w4 c9=>?_;obtain⟨eg,vv,rfl,f4,rfl,F4⟩:=c9;have PZ:∀{a2:Int} {w5:World} {gh:Frame},a2=(if decide (ck k.n.op<ee n.op i)then ek a1 1 else a1)->bA w0 w5->FA 68 87 (.inRegion (opsOf (jc 256414)) [2,3,4,5,6,7]::[.code (jc 256415),.inBlock 1,.code (jc 4007),.inLoop (jc 500),.inBlock 0,.code (jc 63)]) [] .normal [(0,bI b),(1,iV d),(4,iV most),(5,iV marks),(6,iV (ck n.op)),(7,iV i),(8,bI p),(9,iV a2),(34,bU A o ps.length c),(35,iV ps.length),(36,iV i),(57,bI p),(58,iV a2)] gh->
     Goes (G gh cs) w5 fun g' w'=>∃fr',g'=G fr' cs∧bA w0 w'∧cV 68 fr' w' (.tuple #[iV (eU n.op d i (k::ks) most marks).1,iV (ek (eU n.op d i (k::ks) most marks).2 1)]):=fun{a2 w5 gh} ha2 f5 F5=>by
    refine(dpU.go (bL [] [] [(57,bI p),(58,iV a2)]) (Q:=fun v w'=>v=.tuple #[iV (cy k a2).1,iV (cy k a2).2]) F5 rfl fun w' f6=>Cf k (fQ.keep (f5.trans f6) hpk) hfk).trans fun g6 w6 dj=>?_;obtain⟨dJ,vv,rfl,f6,rfl,F6⟩:=dj;obtain⟨σ,bZ⟩:∃σ:Env,σ=bL [(7,d),(8,most),(9,marks),(3,ck n.op),(51,ps.length),(52,c),(53,o),(10,i),(11,a2),(12,(cy k a2).1),(13,(cy k a2).2),(14,k.n.op),(15,ck k.n.op)] [(61,b),(50,A),(62,p)] []:=⟨_,rfl⟩;have Gg:∀{mk':Int} {w7:World} {qj:Frame},mk'=(if i=0∧ck n.op<3∧ck k.n.op=ck n.op then(cy k a2).2 else marks)->bA w0 w7->FA 68 87 (.inRegion (opsOf (jc 512831)) [3,4]::[.inBlock 1,.code (jc 4007),.inLoop (jc 500),.inBlock 0,.code (jc 63)]) [] .normal [(0,bI b),(1,iV d),(5,iV mk'),(6,iV (ck n.op)),(34,bU A o ps.length c),(35,iV ps.length),(36,iV i),(79,iV most),(80,iV (cy k a2).1),(81,iV a2)] qj->
      Goes (G qj cs) w7 fun g' w'=>∃fr',g'=G fr' cs∧bA w0 w'∧cV 68 fr' w' (.tuple #[iV (eU n.op d i (k::ks) most marks).1,iV (ek (eU n.op d i (k::ks) most marks).2 1)]):=fun{mk' w7 qj} hm f7 F7=>by
     refine(dpW.go (R:=fun v w'=>v=iV (max2 (max2 most (cy k a2).1) a2)∧w'=w7) (bL [] [] []) F7 (by decide) rfl fun tm ie x' e1 e2=>?_).trans fun g8 w8 xg=>?_
     ·unfold execOp;simp only[e1,resolve,bF,bG,invoke,builtin];rw[show Array.map (⟨tm,[]⟩:Act).eval #[Operand.tmp 79,Operand.tmp 80,Operand.tmp 81]=#[(⟨tm,[]⟩:Act).eval (.tmp 79),(⟨tm,[]⟩:Act).eval (.tmp 80),(⟨tm,[]⟩:Act).eval (.tmp 81)]from by simp];rw[ie 79 _ rfl,ie 80 _ rfl,ie 81 _ rfl];exact Oc ⟨_,rfl,rfl,rfl⟩
     obtain⟨Iu,vv,rfl,⟨rfl,rfl⟩,F8⟩:=xg;refine(dpK.go (bL [(7,d),(9,mk'),(3,ck n.op),(51,ps.length),(52,c),(53,o),(10,i),(16,max2 (max2 most (cy k a2).1) a2)] [(61,b),(50,A)] []) F8 rfl trivial trivial).trans fun g9 w9 xh=>?_;obtain⟨I,B,AY,rfl,f9,F9,_⟩:=xh;have hgo:=zp ks (i:=i+1) (c:=c) (d:=d) (most:=max2 (max2 most (cy k a2).1) a2) (marks:=mk') (w:=w9) (cs:=cs) (fr:=AY) ht hks cL oJ hla aco (f7.trans f9) (by rw[<-inc (i:=i) (by omega)];exact F9)
     have e:eU n.op d i (k::ks) most marks=eU n.op d (i+1) ks (max2 (max2 most (cy k a2).1) a2) mk':=by subst hm ha2 ha;simp only[eU]
     rw[e];exact hgo
    by_cases h0:i=0
    ·subst h0;by_cases h3:ck n.op<3
     ·refine(dpX.go σ F6 (by rw[bZ];rfl) ⟨by rw[bZ];rfl,by rw[bZ];exact decide_eq_true h3,trivial⟩ ⟨?_,trivial⟩).trans fun g7 w7 lG=>?_
      ·have:=fQ.keep (f5.trans f6) hpk;obtain⟨_,m,ks',ps',s',u',d0,_⟩:=this;rw[bZ];exact d0
      obtain⟨I,B,qj,rfl,f7,F7,_⟩:=lG;rw[bZ]at F7;refine(dpY.go (bL [] [] [(73,cY k.n.op)]) (Q:=fun v w'=>v=iV (ck k.n.op)) F7 rfl fun w' f1=>sS).trans fun g8 w8 xg=>?_;obtain⟨Iu,vv,rfl,f8,rfl,F8⟩:=xg;by_cases hr:ck k.n.op=ck n.op
      ·refine(ack.go σ F8 (by rw[bZ];rfl) ⟨by rw[bZ];exact decide_eq_true hr,trivial⟩ trivial).trans fun g9 w9 xh=>?_;obtain⟨I,B,AY,rfl,f9,F9,_⟩:=xh;rw[bZ]at F9;exact Gg (mk':=(cy k a2).2) (by rw[if_pos ⟨rfl,h3,hr⟩]) (f5.trans (f6.trans (f7.trans (f8.trans f9)))) F9
      ·refine(acj.go σ F8 (by rw[bZ];rfl) ⟨by rw[bZ];exact decide_eq_false hr,trivial⟩ trivial).trans fun g9 w9 xh=>?_;obtain⟨I,B,AY,rfl,f9,F9,_⟩:=xh;rw[bZ]at F9;exact Gg (mk':=marks) (by rw[if_neg fun hh=>hr hh.2.2]) (f5.trans (f6.trans (f7.trans (f8.trans f9)))) F9
     ·refine(aci.go σ F6 (by rw[bZ];rfl) ⟨by rw[bZ];rfl,by rw[bZ];exact decide_eq_false h3,trivial⟩ trivial).trans fun g7 w7 lG=>?_;obtain⟨I,B,qj,rfl,f7,F7,_⟩:=lG;rw[bZ]at F7;exact Gg (mk':=marks) (by rw[if_neg fun hh=>h3 hh.2.1]) (f5.trans (f6.trans f7)) F7
    ·refine(ach.go σ F6 (by rw[bZ];rfl) ⟨by rw[bZ];exact decide_eq_false (by show ¬((i:Int)=0);omega),trivial⟩ trivial).trans fun g7 w7 lG=>?_;obtain⟨I,B,qj,rfl,f7,F7,_⟩:=lG;rw[bZ]at F7;exact Gg (mk':=marks) (by rw[if_neg fun hh=>h0 hh.1]) (f5.trans (f6.trans f7)) F7
   obtain⟨σ,bZ⟩:∃σ:Env,σ=bL [(7,d),(8,most),(9,marks),(3,ck n.op),(51,ps.length),(52,c),(53,o),(10,i),(11,a1)] [(61,b),(50,A),(62,p)] []:=⟨_,rfl⟩;cases e:Gf (.nd n all) i k with
   |false=>rw[e]at F4;refine(acf.go σ F4 (by rw[bZ];rfl) trivial trivial).trans fun g5 w5 d_=>?_;obtain⟨I,B,gh,rfl,f5,F5,_⟩:=d_;rw[bZ]at F5;exact PZ (a2:=a1) (by rw[show decide (ck k.n.op<ee n.op i)=false from e];rfl) (f3.trans (f4.trans f5)) F5
   |true=>rw[e]at F4;refine(acg.go σ F4 (by rw[bZ];rfl) trivial trivial).trans fun g5 w5 d_=>?_;obtain⟨I,B,gh,rfl,f5,F5,_⟩:=d_;rw[bZ]at F5;exact PZ (a2:=ek a1 1) (by rw[show decide (ck k.n.op<ee n.op i)=true from e];rfl) (f3.trans (f4.trans f5)) F5
  by_cases h3:ck n.op<3
  ·by_cases h1:i=1
   ·refine(ace.go ρ hf (by rw[hρ];rfl) (cr.app (bb hρ) ⟨by rw[hρ];exact decide_eq_true h3,by rw[hρ];exact decide_eq_true (by show(i:Int)=1;omega),trivial⟩) mm).trans fun g3 w3 cn=>?_;obtain⟨I,B,cC,rfl,f3,F3,_⟩:=cn;rw[hρ]at F3;exact K9 (a1:=ek d marks) (by rw[if_pos ⟨h3,h1⟩]) (fw.trans f3) F3
   ·refine(acd.go ρ hf (by rw[hρ];rfl) (cr.app (bb hρ) ⟨by rw[hρ];exact decide_eq_true h3,by rw[hρ];exact decide_eq_false (by show ¬((i:Int)=1);omega),trivial⟩) mm).trans fun g3 w3 cn=>?_;obtain⟨I,B,cC,rfl,f3,F3,_⟩:=cn;rw[hρ]at F3;exact K9 (a1:=d) (by rw[if_neg fun hh=>h1 hh.2]) (fw.trans f3) F3
  ·refine(ab'.go ρ hf (by rw[hρ];rfl) (cr.app (bb hρ) ⟨by rw[hρ];exact decide_eq_false h3,trivial⟩) mm).trans fun g3 w3 cn=>?_;obtain⟨I,B,cC,rfl,f3,F3,_⟩:=cn;rw[hρ]at F3;exact K9 (a1:=d) (by rw[if_neg fun hh=>h3 hh.1]) (fw.trans f3) F3
end
end
end Go.Proofs.YtmobbajggkjpgaaGreat
