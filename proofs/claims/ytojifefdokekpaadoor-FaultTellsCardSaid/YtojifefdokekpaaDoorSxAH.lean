/-
  A symbolic run of the model, proved sound, and its use on the given code: a text of its parts. Conditions: none.
-/
import Derived.Test.YtojifefdokekpaaDoorSxAG
import Derived.Ground.NamesProg
import Derived.Shelf.Strconv.Itoa4
set_option maxRecDepth 100000
set_option linter.unusedVariables false
set_option linter.unusedSectionVars false
set_option linter.unusedSimpArgs false
namespace Go.Proofs.YtojifefdokekpaaDoor
open Go.Proofs.YtojifefdokekpaaDoor.SX Go.Conc
def ownP (ρ : Env) (w : World) (pre : List (Nat × ABlk)) (b : Nat) : Prop := w.heap.size ≤ b ∨ ∃ x ∈ pre, ρ.b x.1 = b
theorem pieceI {w : World} {cs : List Frame} {fr : Frame} {bs : List (BE × Bool)} {mem : List (AA × AV)} {n : Nat} {ks : List Nat} {cur : AFrame} {live : List Nat} {V : Seen} (pre post : List (Nat × ABlk))
    (hv : seeF (runZ bs mem n ks (cfg cur [] pre)) live (fun _ => []) = some (V, [])) (hV : V.hp = post) (hV' : tellable V = true) (hl : cfgLow 100 (cfg cur [] pre) = true) (hO : (OO bs mem).low 100 = true) {ρ : Env} (hf : FrRel Tryd.prog ρ cur fr)
    (hb : ∀ p ∈ bs, p.1.ev ρ = p.2) (hm : ∀ p ∈ mem, w.cell? (p.1.ev ρ) = some (p.2.ev ρ) ∧ ∀ x ∈ pre, ρ.b x.1 ≠ (p.1.ev ρ).block) (hpre : ∀ x ∈ pre, ∃ k : Blk, k.at Tryd.prog w (ρ.b x.1) ∧ AbsIs Tryd.prog ρ x.2 k) (hnd : (pre.map fun p => ρ.b p.1).Nodup) (hnd' : (post.map (·.1)).Nodup) :
    Goes (G fr cs) w fun g' w' => ∃ ρ' fr', g' = G fr' cs ∧ Keeps (ownP ρ w pre) w w' ∧ Agree (Below 100) ρ ρ' ∧ FA V.fn V.nt V.todo (V.defers.map (AD.ev ρ')) V.kind (live.zip (AV.evs ρ' V.vals)) fr' ∧ (∀ x ∈ post, ownP ρ w pre (ρ'.b x.1) ∧ (blkOf ρ' x.2).at Tryd.prog w' (ρ'.b x.1)) ∧ ∀ x ∈ post, ∀ y ∈ post, ρ'.b x.1 = ρ'.b y.1 → x.1 = y.1 := by
  obtain ⟨cl, hs, hcl⟩ := seeF_ok hv
  have hown : ∀ b, ownP ρ w pre b → (KZ 0).own b := fun b _ => Nat.zero_le b
  have Gd2 := sub_good (K := KZ 0) (O := OO bs mem) (own := ownP ρ w pre) (still := fun _ _ => False) (KZ_good 0) hown
  have W := piece (K := KZ 0) (main := true) (own := ownP ρ w pre) (still := fun _ _ => False) (O := OO bs mem) (cs := cs) (frs := []) (KZ_good 0) hown ⟨fns_ok, ext_facts, mixed⟩ (ext_ok Gd2 (.inl trivial) tab_facts) noSums_ok hs hl rfl hO hf trivial
    (rel_blocks (fun p hp => by
        obtain ⟨k, h1, h2⟩ := hpre p hp
        exact abs_is h1 h2) (fun p hp => .inr ⟨p, hp, rfl⟩) hnd (fun p hp n hn => hn.elim False.elim False.elim) ⟨hb, (fun p hp => by cases hp), fun p hp => ⟨fun hh => by
          have h1 := cellLt (hm p hp).1
          rcases hh with hh | ⟨x, hx, e⟩
          · omega
          · exact (hm p hp).2 x hx e, (hm p hp).1, fun s => ⟨trivial, fun b n s e => by cases e⟩⟩⟩ (fun n hn => .inl hn) fun b n h => h.elim False.elim False.elim)
  refine (Goes.of W).mono fun g' w' hd => ?_
  obtain ⟨ρ', c', fr', frs', C⟩ := hd
  have hcal : c'.callers = cl := congrArg Seen.callers C.seen
  have hhp : c'.h.hp = V.hp := congrArg Seen.hp C.seen
  have hRel := C.rel
  have hfr := C.fr
  have hfrs := C.frs
  have hseen := C.seen
  obtain ⟨cur', callers', hh⟩ := c'
  dsimp only at hcal hhp hRel hfr hfrs
  subst hcal
  obtain rfl : callers' = [] := by
    cases callers' with
    | nil => rfl
    | cons a b => cases hcl
  obtain rfl : frs' = [] := by
    cases frs' with
    | nil => rfl
    | cons a b => exact hfrs.elim
  simp only [tellable, Bool.and_eq_true] at hV'
  have hmode : V.mode = .run := by
    have := hV'.1
    cases e : V.mode <;> first | rfl | (simp [e, isRun] at this)
  have hfind : ∀ x ∈ post, findB x.1 hh.hp = some x.2 := fun x hx => by
    rw [hhp, hV]
    exact find_of hnd' hx
  refine ⟨ρ', fr', C.gor, C.keeps, C.agree, ?_, fun x hx => ?_, fun x hx y hy e => hRel.inj _ _ _ _ (hfind x hx) (hfind y hy) e⟩
  · refine FAt.of hfr ?_ (plain_is hV'.2)
    unfold Seen.under seenOf at hseen
    unfold frSeen
    simp only [Seen.mk.injEq] at hseen ⊢
    exact ⟨hseen.1, hseen.2.1, hseen.2.2.1, hseen.2.2.2.1, hseen.2.2.2.2.1.trans hmode, hseen.2.2.2.2.2.1, trivial, trivial, hseen.2.2.2.2.2.2.2.2⟩
  · obtain ⟨o, h1, h2⟩ := hRel.blk _ _ (hfind x hx)
    refine ⟨?_, is_blk h1 h2⟩
    rcases hRel.own' _ _ (hfind x hx) with h3 | ⟨hc, h3⟩
    · exact h3
    · exact (h3.elim False.elim False.elim)
theorem pieceW {w : World} {cs : List Frame} {fr : Frame} {bs : List (BE × Bool)} {mem : List (AA × AV)} {n : Nat} {ks : List Nat} {cur : AFrame} {live : List Nat} {V : Seen} (pre post : List (Nat × ABlk))
    (hv : seeF (runZ bs mem n ks (cfg cur [] pre)) live (fun _ => []) = some (V, [])) (hV : V.hp = post) (hV' : tellable V = true) (hl : cfgLow 100 (cfg cur [] pre) = true) (hO : (OO bs mem).low 100 = true) {ρ : Env} (hf : FrRel Tryd.prog ρ cur fr)
    (hb : ∀ p ∈ bs, p.1.ev ρ = p.2) (hm : ∀ p ∈ mem, w.cell? (p.1.ev ρ) = some (p.2.ev ρ) ∧ ∀ x ∈ pre, ρ.b x.1 ≠ (p.1.ev ρ).block) (hpre : ∀ x ∈ pre, ∃ k : Blk, k.at Tryd.prog w (ρ.b x.1) ∧ AbsIs Tryd.prog ρ x.2 k) (hnd : (pre.map fun p => ρ.b p.1).Nodup) (hnd' : (post.map (·.1)).Nodup) :
    Goes (G fr cs) w fun g' w' => ∃ ρ' fr', g' = G fr' cs ∧ Keeps (ownP ρ w pre) w w' ∧ Agree (Below 100) ρ ρ' ∧ FA V.fn V.nt V.todo (V.defers.map (AD.ev ρ')) V.kind (live.zip (AV.evs ρ' V.vals)) fr' ∧ ∀ x ∈ post, ownP ρ w pre (ρ'.b x.1) ∧ (blkOf ρ' x.2).at Tryd.prog w' (ρ'.b x.1) :=
  (pieceI pre post hv hV hV' hl hO hf hb hm hpre hnd hnd').mono fun g' w' hd => by
    obtain ⟨ρ', fr', h1, h2, h3, h4, h5, _⟩ := hd
    exact ⟨ρ', fr', h1, h2, h3, h4, h5⟩
end Go.Proofs.YtojifefdokekpaaDoor
set_option maxRecDepth 100000
set_option linter.unusedVariables false
set_option linter.unusedSimpArgs false
namespace Go.Proofs.YtojifefdokekpaaDoor
open Go.Proofs.YtojifefdokekpaaDoor.SX Go.Conc
noncomputable def alQ (l : List Nat) : Code := pc (bodyOf Tryd.f36) l
noncomputable def alT : List Item := [.code (alQ [1,0,0]), .inLoop (alQ [1,0,0]), .inBlock 0]
noncomputable def alR1 : List Item := [.code .ret, .code (alQ [1,0,0,0,1]), .inBlock 1, .inLoop (alQ [1,0,0]), .inBlock 0]
noncomputable def alR2 : List Item := [.code .ret, .inBlock 2, .inBlock 1, .inLoop (alQ [1,0,0]), .inBlock 0]
noncomputable def alF (t : List Item) (l : List (Nat × AV)) (st : Nat → Value) : AFrame := ⟨36, 62, tmpsOf 62 st l, t, [], .run, .normal⟩
def tgT (b : Bool) : Nat := match b with
  | false => 59
  | true => 60
def tgE (b : Bool) : Nat := match b with
  | false => 29
  | true => 44
noncomputable def hdl (t : Nat) : AV := .ptr (some ⟨.glob 5, .lit (Int.ofNat t)⟩)
noncomputable def rty (t : Nat) : AV := .iface 86 (.agg [hdl t])
noncomputable def vaA (t d : Nat) : AV := .agg [hdl t, ptr0 d, .int .u64 (.lit 150)]
noncomputable def asM : List (AA × AV) := [(⟨.glob 1, .lit 0⟩, rty 27)]
noncomputable def asE0 (b : Bool) (t : Nat) (st : Nat → Value) : AFrame := ⟨26, 42, tmpsOf 42 st [(0, .iface t (.opq 60)), (1, .iface (tgT b) (ptr0 70))], [.code (bodyOf Tryd.f26)], [], .run, .normal⟩
noncomputable def asT : List Item := [.inRegion (opsOf (pc (bodyOf Tryd.f26) [1,1,1,1,1,1,1,1,0])) [4, 5], .code .ret]
noncomputable def asT2 : List Item := [.inRegion (opsOf (pc (bodyOf Tryd.f26) [1,1,1,1,1,1,1,1,0])) [5], .code .ret]
theorem asIn (b : Bool) (t : Nat) (st : Nat → Value) : seeF (runZ [] asM 73 [100] (cfg (asE0 b t st) [] [])) [37, 38, 39, 40] noL = some (⟨26, 42, asT, [], .run, .normal, [], [(100, .cells [ptr0 70] (tgT b))], [.iface t (.opq 60), .iface (tgT b) (ptr0 70), vaA (tgT b) 100, rty (tgE b)]⟩, []) := by cases b <;> kernel_rfl
theorem asInLow (b : Bool) (t : Nat) (st : Nat → Value) : cfgLow 100 (cfg (asE0 b t st) [] []) = true := by cases b <;> kernel_rfl
noncomputable def asE1 (st : Nat → Value) : AFrame := ⟨26, 42, tmpsOf 42 st [(41, .opq 60)], asT2, [], .run, .normal⟩
theorem asOut (st : Nat → Value) : seeF (runZ [] [] 2 [] (cfg (asE1 st) [] [])) [4] noL = some (⟨26, 42, [.code .ret], [], .run, .normal, [], [], [.opq 60]⟩, []) := by kernel_rfl
theorem asOutLow (st : Nat → Value) : cfgLow 100 (cfg (asE1 st) [] []) = true := by kernel_rfl
noncomputable def alE0 (b : Bool) (st : Nat → Value) : AFrame := alF [.code (bodyOf Tryd.f36)] [(0, .opq 60), (1, .iface (tgT b) (ptr0 70)), (2, vaA (tgT b) 71), (3, rty (tgE b))] st
theorem alIn (b : Bool) (st : Nat → Value) : seeF (runZ [] [] 7 [100] (cfg (alE0 b st) [] [])) [0, 1, 3, 6, 8] noL = some (⟨36, 62, alT, [], .run, .normal, [], [(100, .cells [hdl (tgT b), ptr0 71, .int .u64 (.lit 150)] 73)], [.opq 60, .iface (tgT b) (ptr0 70), rty (tgE b), ptr0 100, FB]⟩, []) := by cases b <;> kernel_rfl
theorem alInLow (b : Bool) (st : Nat → Value) : cfgLow 100 (cfg (alE0 b st) [] []) = true := by cases b <;> kernel_rfl
noncomputable def alM (b : Bool) : List (AA × AV) := [(⟨.dyn 71, .lit 0⟩, ptr0 70), (⟨.dyn 72, .lit 0⟩, hdl (tgT b)), (⟨.dyn 72, .lit 1⟩, ptr0 71), (⟨.dyn 72, .lit 2⟩, .int .u64 (.lit 150))]
noncomputable def alH (b : Bool) (e : AV) (st : Nat → Value) : AFrame := alF alT [(0, e), (1, .iface (tgT b) (ptr0 70)), (3, rty (tgE b)), (6, ptr0 72), (8, FB)] st
noncomputable def alAt : AV := .iface 44 (ptr0 60)
theorem alGo (t : Nat) (st : Nat → Value) : seeF (runZ [] [(⟨.dyn 60, .lit 1⟩, .iface t (.opq 61))] 87 [] (cfg (alH false alAt st) [] [])) [0, 1, 3, 6, 8] noL = some (⟨36, 62, alT, [], .run, .normal, [], [], [.iface t (.opq 61), .iface 59 (ptr0 70), rty 29, ptr0 72, FB]⟩, []) := by kernel_rfl
theorem alGoLow (st : Nat → Value) : cfgLow 100 (cfg (alH false alAt st) [] []) = true := by kernel_rfl
theorem alAt0 (st : Nat → Value) : seeF (runZ [] [(⟨.dyn 60, .lit 1⟩, .nilIface)] 87 [] (cfg (alH false alAt st) [] [])) [8] noL = some (⟨36, 62, alR2, [], .run, .normal, [], [], [FB]⟩, []) := by kernel_rfl
def cod : Nat → Int
  | 1 => 23
  | 2 => 20
  | 3 => 21
  | _ => 22
noncomputable def alK (k : Nat) : AV := .iface (39 + k) (ptr0 60)
noncomputable def tgB (b : Bool) (x : AV) : List (Nat × ABlk) := [(70, .cells [x] (tgE b))]
theorem alCls {k : Nat} (h : 1 ≤ k ∧ k ≤ 4) (st : Nat → Value) : seeF (runZ [] (alM false) 106 [70] (cfg (alH false (alK k) st) [] (tgB false (.opq 68)))) [8] noL = some (⟨36, 62, alR1, [], .run, .normal, [], tgB false (i64 (.lit (cod k))), [TB]⟩, []) := by
  rcases (by omega : k = 1 ∨ k = 2 ∨ k = 3 ∨ k = 4) with rfl | rfl | rfl | rfl <;> kernel_rfl
theorem alClsLow {k : Nat} (h : 1 ≤ k ∧ k ≤ 4) (st : Nat → Value) : cfgLow 100 (cfg (alH false (alK k) st) [] (tgB false (.opq 68))) = true := by
  rcases (by omega : k = 1 ∨ k = 2 ∨ k = 3 ∨ k = 4) with rfl | rfl | rfl | rfl <;> kernel_rfl
theorem alPl (b : Bool) (st : Nat → Value) : seeF (runZ [] (alM b) 60 [] (cfg (alH b (.iface 117 (.opq 60)) st) [] [])) [8] noL = some (⟨36, 62, alR2, [], .run, .normal, [], [], [FB]⟩, []) := by cases b <;> kernel_rfl
theorem alPlLow (b : Bool) (st : Nat → Value) : cfgLow 100 (cfg (alH b (.iface 117 (.opq 60)) st) [] []) = true := by cases b <;> kernel_rfl
theorem alEn (st : Nat → Value) : seeF (runZ [] (alM false) 22 [70] (cfg (alH false (.iface 29 (i64 (v 2))) st) [] (tgB false (.opq 68)))) [8] noL = some (⟨36, 62, alR1, [], .run, .normal, [], tgB false (i64 (v 2)), [TB]⟩, []) := by kernel_rfl
theorem alEnLow (st : Nat → Value) : cfgLow 100 (cfg (alH false (.iface 29 (i64 (v 2))) st) [] (tgB false (.opq 68))) = true := by kernel_rfl
theorem alHit (st : Nat → Value) : seeF (runZ [] (alM true) 22 [70] (cfg (alH true alAt st) [] (tgB true (.opq 68)))) [8] noL = some (⟨36, 62, alR1, [], .run, .normal, [], tgB true (ptr0 60), [TB]⟩, []) := by kernel_rfl
theorem alHitLow (st : Nat → Value) : cfgLow 100 (cfg (alH true alAt st) [] (tgB true (.opq 68))) = true := by kernel_rfl
theorem alNo {k : Nat} (h : 1 ≤ k ∧ k ≤ 4) (st : Nat → Value) : seeF (runZ [] (alM true) 144 [] (cfg (alH true (alK k) st) [] [])) [8] noL = some (⟨36, 62, alR2, [], .run, .normal, [], [], [FB]⟩, []) := by
  rcases (by omega : k = 1 ∨ k = 2 ∨ k = 3 ∨ k = 4) with rfl | rfl | rfl | rfl <;> kernel_rfl
theorem alNoLow {k : Nat} (h : 1 ≤ k ∧ k ≤ 4) (st : Nat → Value) : cfgLow 100 (cfg (alH true (alK k) st) [] []) = true := by
  rcases (by omega : k = 1 ∨ k = 2 ∨ k = 3 ∨ k = 4) with rfl | rfl | rfl | rfl <;> kernel_rfl
theorem alNoEn (st : Nat → Value) : seeF (runZ [] (alM true) 60 [] (cfg (alH true (.iface 29 (i64 (v 2))) st) [] [])) [8] noL = some (⟨36, 62, alR2, [], .run, .normal, [], [], [FB]⟩, []) := by kernel_rfl
theorem alNoEnLow (st : Nat → Value) : cfgLow 100 (cfg (alH true (.iface 29 (i64 (v 2))) st) [] []) = true := by kernel_rfl
end Go.Proofs.YtojifefdokekpaaDoor
set_option maxRecDepth 100000
set_option linter.unusedVariables false
set_option linter.unusedSimpArgs false
namespace Go.Proofs.YtojifefdokekpaaDoor
open Go.Proofs.YtojifefdokekpaaDoor.SX Go.Conc
def hV (t : Nat) : Value := .pointer (some ⟨5, t, none⟩)
def rtV (t : Nat) : Value := .iface 86 (.agg #[hV t])
def vaV (t D : Nat) : Value := .agg #[hV t, ptrV D, .int .u64 150]
def TypeAt (w : World) : Prop := w.cell? ⟨1, 0, none⟩ = some (rtV 27)
def asOf (b : Bool) (e : Value) (k : Nat) (n : Int) : Option Value := match b with
  | false => if 1 ≤ k ∧ k ≤ 4 then some (iV (cod k)) else if k = 7 then some (iV n) else none
  | true => match e with
    | .iface 44 p => some p
    | _ => none
def ownT (w : World) (T n : Nat) : Prop := w.heap.size ≤ n ∨ n = T
structure AlMem (b : Bool) (T D X : Nat) (w : World) : Prop where
  d : w.cell? ⟨D, 0, none⟩ = some (ptrV T)
  x0 : w.cell? ⟨X, 0, none⟩ = some (hV (tgT b))
  x1 : w.cell? ⟨X, 1, none⟩ = some (ptrV D)
  x2 : w.cell? ⟨X, 2, none⟩ = some (.int .u64 150)
  t : ∃ y, (Blk.obj (tgE b) [y]).at Tryd.prog w T
  td : T ≠ D
  tx : T ≠ X
abbrev AlH (b : Bool) (T X : Nat) (e : Value) (fr : Frame) : Prop := FA 36 62 alT [] .normal [(0, e), (1, .iface (tgT b) (ptrV T)), (3, rtV (tgE b)), (6, ptrV X), (8, .bool false)] fr
structure AlOut (b : Bool) (T : Nat) (w : World) (o : Option Value) (fr : Frame) (w' : World) : Prop where
  fr : ∃ k, FA 36 62 (.code .ret :: k) [] .normal [(8, .bool o.isSome)] fr
  keep : Keeps (ownT w T) w w'
  set : ∀ y, o = some y → (Blk.obj (tgE b) [y]).at Tryd.prog w' T
theorem blk_keep {w w' : World} {k : Blk} {T : Nat} (h : k.at Tryd.prog w T) (f : Fresh w w') : k.at Tryd.prog w' T := Blk.at_keep h f fun hh => by
  have := Blk.at_lt h
  omega
section
variable {b : Bool} {T D X : Nat} {w w' : World} {cs : List Frame} {fr : Frame} {e : Value} {k : Nat} {n : Int} {l : List Int}
theorem AlMem.keep (M : AlMem b T D X w) (f : Fresh w w') : AlMem b T D X w' := by
  obtain ⟨y, hy⟩ := M.t
  exact ⟨f.cell M.d, f.cell M.x0, f.cell M.x1, f.cell M.x2, ⟨y, blk_keep hy f⟩, M.td, M.tx⟩
theorem ownT.of (h : Fresh w w') : Keeps (ownT w T) w w' := h.mono fun n hn => .inl hn
theorem AlOut.after {w1 : World} {o : Option Value} (f : Fresh w w1) (h : AlOut b T w1 o fr w') : AlOut b T w o fr w' :=
  ⟨h.fr, (ownT.of f).trans (h.keep.mono fun n hn => hn.elim (fun x => .inl (Nat.le_trans f.size x)) .inr), h.set⟩
theorem al_mem {ρ : Env} (M : AlMem b T D X w) (h70 : ρ.b 70 = T) (h71 : ρ.b 71 = D) (h72 : ρ.b 72 = X) {pre : List (Nat × ABlk)} (hp : pre = [] ∨ ∃ x, pre = tgB b x) : ∀ p ∈ alM b, w.cell? (p.1.ev ρ) = some (p.2.ev ρ) ∧ ∀ x ∈ pre, ρ.b x.1 ≠ (p.1.ev ρ).block := by
  have hne : ∀ q, q = D ∨ q = X → ∀ x ∈ pre, ρ.b x.1 ≠ q := fun q hq x hx => by
    rcases hp with rfl | ⟨y, rfl⟩
    · cases hx
    · obtain rfl := List.mem_singleton.1 hx
      rw [show ρ.b 70 = T from h70]
      rcases hq with rfl | rfl
      · exact M.td
      · exact M.tx
  intro p hp'
  simp only [alM, List.mem_cons, List.not_mem_nil, or_false] at hp'
  rcases hp' with rfl | rfl | rfl | rfl
  · refine ⟨?_, hne _ (.inl h71)⟩
    show w.cell? ⟨ρ.b 71, 0, none⟩ = some (ptrV (ρ.b 70))
    rw [h71, h70]; exact M.d
  · refine ⟨?_, hne _ (.inr h72)⟩
    show w.cell? ⟨ρ.b 72, 0, none⟩ = some (hV (tgT b))
    rw [h72]; exact M.x0
  · refine ⟨?_, hne _ (.inr h72)⟩
    show w.cell? ⟨ρ.b 72, 1, none⟩ = some (ptrV (ρ.b 71))
    rw [h72, h71]; exact M.x1
  · refine ⟨?_, hne _ (.inr h72)⟩
    show w.cell? ⟨ρ.b 72, 2, none⟩ = some (.int .u64 150)
    rw [h72]; exact M.x2
theorem al_set (M : AlMem b T D X w) {eA yA : AV} {m : Nat} {ρ : Env} {y : Value} (h70 : ρ.b 70 = T) (h71 : ρ.b 71 = D) (h72 : ρ.b 72 = X) (h68 : ∀ z, (Blk.obj (tgE b) [z]).at Tryd.prog w T → ρ.v 68 = z)
    (q : ∀ st, seeF (runZ [] (alM b) m [70] (cfg (alH b eA st) [] (tgB b (.opq 68)))) [8] noL = some (⟨36, 62, alR1, [], .run, .normal, [], tgB b yA, [TB]⟩, [])) (hl : ∀ st, cfgLow 100 (cfg (alH b eA st) [] (tgB b (.opq 68))) = true) (he : eA.ev ρ = e) (hy : yA.ev ρ = y) (hlow : AV.low 100 yA = true) (hf : AlH b T X e fr) :
    Goes (G fr cs) w fun g' w' => ∃ fr', g' = G fr' cs ∧ AlOut b T w (some y) fr' w' := by
  obtain ⟨z, hz⟩ := M.t
  refine (pieceW (ρ := ρ) (tgB b (.opq 68)) (tgB b yA) (q (stOf fr)) rfl rfl (hl _) (by cases b <;> kernel_rfl) (hf.rel (.inl rfl) [(0, eA), (1, .iface (tgT b) (ptr0 70)), (3, rty (tgE b)), (6, ptr0 72), (8, FB)] ?_ rfl) (fun p hp => by cases hp) (al_mem M h70 h71 h72 (.inr ⟨_, rfl⟩)) (fun x hx => ?_) ?_ ?_).mono fun g' w' hd => ?_
  · show [(0, eA.ev ρ), (1, Value.iface (tgT b) (ptrV (ρ.b 70))), (3, rtV (tgE b)), (6, ptrV (ρ.b 72)), (8, Value.bool false)] = _
    rw [he, h70, h72]
  · obtain rfl := List.mem_singleton.1 hx
    refine ⟨.obj (tgE b) [ρ.v 68], ?_, rfl, rfl⟩
    show (Blk.obj (tgE b) [ρ.v 68]).at Tryd.prog w (ρ.b 70)
    rw [h70, h68 z hz]
    exact hz
  · exact List.nodup_cons.2 ⟨List.not_mem_nil, List.nodup_nil⟩
  · exact List.nodup_cons.2 ⟨List.not_mem_nil, List.nodup_nil⟩
  · obtain ⟨ρ', fr', rfl, kp, Ag, f1, bl⟩ := hd
    have b70 : ρ'.b 70 = T := (Ag.b 70 (by decide)).trans h70
    have hb := (bl (70, .cells [yA] (tgE b)) (List.mem_singleton.2 rfl)).2
    refine ⟨fr', rfl, ⟨_, f1⟩, kp.mono fun m hm => ?_, fun y' hy' => ?_⟩
    · rcases hm with h | ⟨x, hx, e⟩
      · exact .inl h
      · obtain rfl := List.mem_singleton.1 hx
        exact .inr (e.symm.trans h70)
    · obtain rfl := Option.some.inj hy'
      have hb' : (Blk.obj (tgE b) [yA.ev ρ']).at Tryd.prog w' (ρ'.b 70) := hb
      rw [b70, AV.ev_agree Ag yA (AV.low_in _ hlow), hy] at hb'
      exact hb'
theorem al_no {eA : AV} {m : Nat} {ρ : Env} {mem : List (AA × AV)} (h70 : ρ.b 70 = T) (h72 : ρ.b 72 = X)
    (q : ∀ st, seeF (runZ [] mem m [] (cfg (alH b eA st) [] [])) [8] noL = some (⟨36, 62, alR2, [], .run, .normal, [], [], [FB]⟩, [])) (hl : ∀ st, cfgLow 100 (cfg (alH b eA st) [] []) = true) (hO : (OO [] mem).low 100 = true) (hm : ∀ p ∈ mem, w.cell? (p.1.ev ρ) = some (p.2.ev ρ)) (he : eA.ev ρ = e) (hf : AlH b T X e fr) :
    Goes (G fr cs) w fun g' w' => ∃ fr', g' = G fr' cs ∧ AlOut b T w none fr' w' := by
  refine (pieceF (ρ := ρ) (q (stOf fr)) rfl rfl (hl _) hO (hf.rel (.inl rfl) [(0, eA), (1, .iface (tgT b) (ptr0 70)), (3, rty (tgE b)), (6, ptr0 72), (8, FB)] ?_ rfl) (fun p hp => by cases hp) hm List.nodup_nil).mono fun g' w' hd => ?_
  · show [(0, eA.ev ρ), (1, Value.iface (tgT b) (ptrV (ρ.b 70))), (3, rtV (tgE b)), (6, ptrV (ρ.b 72)), (8, Value.bool false)] = _
    rw [he, h70, h72]
  · obtain ⟨ρ', fr', rfl, kp, Ag, f1, bl⟩ := hd
    exact ⟨fr', rfl, ⟨_, f1⟩, ownT.of kp, fun y hy => by cases hy⟩
theorem obj_one {E : Nat} {y z : Value} (h : (Blk.obj E [y]).at Tryd.prog w T) (h' : (Blk.obj E [z]).at Tryd.prog w T) : y = z := by
  have := ObjAt.eqs h h'
  exact (List.cons.inj this).1
theorem asM_low (b : Bool) : (OO [] (alM b)).low 100 = true := by cases b <;> kernel_rfl
theorem al_run (h : ErrAt w e l k n) (hk : k ≠ 0) : ∀ {w1 : World} {fr : Frame}, Fresh w w1 → AlMem b T D X w1 → AlH b T X e fr → Goes (G fr cs) w1 fun g' w' => ∃ fr', g' = G fr' cs ∧ AlOut b T w1 (asOf b e k n) fr' w' := by
  have hpt : ∀ {A : Nat} {m : Int} {kk : Nat} {w1 : World} {fr : Frame}, 1 ≤ kk ∧ kk ≤ 4 → AlMem b T D X w1 → AlH b T X (.iface (39 + kk) (ptrV A)) fr → Goes (G fr cs) w1 fun g' w' => ∃ fr', g' = G fr' cs ∧ AlOut b T w1 (asOf b (.iface (39 + kk) (ptrV A)) kk m) fr' w' := by
    intro A m kk w1 fr hkk M hf
    obtain ⟨y, hy⟩ := M.t
    cases b with
    | false =>
      have e0 : asOf false (.iface (39 + kk) (ptrV A)) kk m = some (iV (cod kk)) := if_pos hkk
      rw [e0]
      exact al_set (ρ := mkE [] [(60, A), (70, T), (71, D), (72, X)] [(68, y)]) M rfl rfl rfl (fun z hz => obj_one hy hz) (alCls hkk) (alClsLow hkk) rfl rfl rfl hf
    | true =>
      have e0 : asOf true (.iface (39 + kk) (ptrV A)) kk m = none := by
        rcases (by omega : kk = 1 ∨ kk = 2 ∨ kk = 3 ∨ kk = 4) with rfl | rfl | rfl | rfl <;> rfl
      rw [e0]
      exact al_no (ρ := mkE [] [(60, A), (70, T), (71, D), (72, X)] []) rfl rfl (alNo hkk) (alNoLow hkk) (asM_low _) (fun p hp => (al_mem M rfl rfl rfl (.inl rfl) p hp).1) rfl hf
  have hit : ∀ {A kk : Nat} {m : Int} {w1 : World} {fr : Frame}, b = true → AlMem b T D X w1 → AlH b T X (.iface 44 (ptrV A)) fr → Goes (G fr cs) w1 fun g' w' => ∃ fr', g' = G fr' cs ∧ AlOut b T w1 (asOf b (.iface 44 (ptrV A)) kk m) fr' w' := by
    intro A kk m w1 fr hb M hf
    subst hb
    obtain ⟨y, hy⟩ := M.t
    exact al_set (ρ := mkE [] [(60, A), (70, T), (71, D), (72, X)] [(68, y)]) M rfl rfl rfl (fun z hz => obj_one hy hz) alHit alHitLow rfl rfl rfl hf
  induction h with
  | nil n => exact (hk rfl).elim
  | failed A n h => intro w1 fr f M hf; exact hpt (kk := 1) (by omega) M hf
  | cancelled A n h => intro w1 fr f M hf; exact hpt (kk := 2) (by omega) M hf
  | late A n h => intro w1 fr f M hf; exact hpt (kk := 3) (by omega) M hf
  | panic A n h => intro w1 fr f M hf; exact hpt (kk := 4) (by omega) M hf
  | plain A o n h =>
    intro w1 fr f M hf
    have e0 : asOf b (.iface 117 (.pointer (some ⟨A, o, none⟩))) 5 n = none := by cases b <;> rfl
    rw [e0]
    exact al_no (ρ := mkE [] [(70, T), (71, D), (72, X)] [(60, .pointer (some ⟨A, o, none⟩))]) rfl rfl (alPl b) (alPlLow b) (asM_low _) (fun p hp => (al_mem M rfl rfl rfl (.inl rfl) p hp).1) rfl hf
  | at0 A n h h1 =>
    intro w1 fr f M hf
    cases b with
    | true => exact hit rfl M hf
    | false =>
      exact al_no (ρ := mkE [] [(60, A), (70, T), (71, D), (72, X)] []) rfl rfl alAt0 alGoLow (by kernel_rfl) (fun p hp => by
        obtain rfl := List.mem_singleton.1 hp
        exact f.cell h1) rfl hf
  | errno n =>
    intro w1 fr f M hf
    obtain ⟨y, hy⟩ := M.t
    cases b with
    | false => exact al_set (ρ := mkE [(2, n)] [(70, T), (71, D), (72, X)] [(68, y)]) M rfl rfl rfl (fun z hz => obj_one hy hz) alEn alEnLow rfl rfl rfl hf
    | true => exact al_no (ρ := mkE [(2, n)] [(70, T), (71, D), (72, X)] []) rfl rfl alNoEn alNoEnLow (asM_low _) (fun p hp => (al_mem M rfl rfl rfl (.inl rfl) p hp).1) rfl hf
  | at' A x e l k n h h1 hk' he ih =>
    intro w1 fr f M hf
    cases b with
    | true => exact hit rfl M hf
    | false =>
      obtain ⟨t, p, rfl⟩ := he.is hk'
      let ρ : Env := mkE [] [(60, A), (70, T), (71, D), (72, X)] [(61, p)]
      refine (pieceF (ρ := ρ) (alGo t (stOf fr)) rfl rfl (alGoLow _) (by kernel_rfl) (hf.rel (.inl rfl) [(0, alAt), (1, .iface (tgT false) (ptr0 70)), (3, rty (tgE false)), (6, ptr0 72), (8, FB)] rfl rfl) (fun p hp => by cases hp) (fun p hp => by
        obtain rfl := List.mem_singleton.1 hp
        exact f.cell h1) List.nodup_nil).trans fun g' w2 hd => ?_
      obtain ⟨ρ', fr', rfl, f2, Ag, f1, bl⟩ := hd
      have b70 : ρ'.b 70 = T := Ag.b 70 (by decide)
      have b72 : ρ'.b 72 = X := Ag.b 72 (by decide)
      have v61 : ρ'.v 61 = p := congrFun Ag.v 61
      have f1' : AlH false T X (.iface t p) fr' := by
        have e0 : [0, 1, 3, 6, 8].zip (AV.evs ρ' [.iface t (.opq 61), .iface 59 (ptr0 70), rty 29, ptr0 72, FB]) = [(0, .iface t p), (1, .iface (tgT false) (ptrV T)), (3, rtV (tgE false)), (6, ptrV X), (8, .bool false)] := by
          show [(0, Value.iface t (ρ'.v 61)), (1, Value.iface 59 (ptrV (ρ'.b 70))), (3, rtV 29), (6, ptrV (ρ'.b 72)), (8, Value.bool false)] = _
          rw [b70, b72, v61]; rfl
        show FA 36 62 alT [] .normal [(0, .iface t p), (1, .iface (tgT false) (ptrV T)), (3, rtV (tgE false)), (6, ptrV X), (8, .bool false)] fr'
        rw [← e0]; exact f1
      refine (ih hk' (f.trans f2) (M.keep f2) f1').mono fun g3 w3 hd3 => ?_
      obtain ⟨fr3, rfl, O⟩ := hd3
      exact ⟨fr3, rfl, O.after f2⟩
end
end Go.Proofs.YtojifefdokekpaaDoor
set_option maxRecDepth 100000
set_option linter.unusedVariables false
set_option linter.unusedSimpArgs false
namespace Go.Proofs.YtojifefdokekpaaDoor
open Go.Proofs.YtojifefdokekpaaDoor.SX Go.Conc
theorem ent36 : enterA Tryd.prog 36 [.opq 0, .opq 1, .opq 2, .opq 3] .normal = .ok ⟨36, 62, entT 36 [.opq 0, .opq 1, .opq 2, .opq 3], [.code (bodyOf Tryd.f36)], [], .run, .normal⟩ := by kernel_rfl
theorem ent26 : enterA Tryd.prog 26 [.opq 0, .opq 1] .normal = .ok ⟨26, 42, entT 26 [.opq 0, .opq 1], [.code (bodyOf Tryd.f26)], [], .run, .normal⟩ := by kernel_rfl
structure AsOut (b : Bool) (T : Nat) (w : World) (o : Option Value) (v : Value) (w' : World) : Prop where
  v : v = .bool o.isSome
  keep : Keeps (ownT w T) w w'
  set : ∀ y, o = some y → (Blk.obj (tgE b) [y]).at Tryd.prog w' T
theorem AsOut.after {b : Bool} {T : Nat} {w w1 w' : World} {o : Option Value} {v : Value} (f : Fresh w w1) (h : AsOut b T w1 o v w') : AsOut b T w o v w' :=
  ⟨h.v, (ownT.of f).trans (h.keep.mono fun n hn => hn.elim (fun x => .inl (Nat.le_trans f.size x)) .inr), h.set⟩
section
variable {b : Bool} {T D X : Nat} {w w' : World} {cs : List Frame} {fr : Frame} {e : Value} {k : Nat} {n : Int} {l : List Int}
theorem as36 (h : ErrAt w e l k n) (hk : k ≠ 0) (hD : w.cell? ⟨D, 0, none⟩ = some (ptrV T)) {y : Value} (hT : (Blk.obj (tgE b) [y]).at Tryd.prog w T) (hne : T ≠ D) :
    Ans 36 #[e, .iface (tgT b) (ptrV T), vaV (tgT b) D, rtV (tgE b)] w (AsOut b T w (asOf b e k n)) := by
  refine ans_of fun cs => ?_
  let ρ : Env := mkE [] [(70, T), (71, D)] [(60, e)]
  refine (pieceF (ρ := ρ) (alIn b (stOf _)) rfl rfl (alInLow b _) (by kernel_rfl) ((enter4 ent36 rfl e (.iface (tgT b) (ptrV T)) (vaV (tgT b) D) (rtV (tgE b))).rel (.inl rfl) [(0, .opq 60), (1, .iface (tgT b) (ptr0 70)), (2, vaA (tgT b) 71), (3, rty (tgE b))] rfl rfl) (fun p hp => by cases hp) (fun p hp => by cases hp) (List.nodup_cons.2 ⟨List.not_mem_nil, List.nodup_nil⟩)).trans fun g1 w1 hd => ?_
  obtain ⟨ρ', fr1, rfl, f1, Ag, F1, bl⟩ := hd
  have b70 : ρ'.b 70 = T := Ag.b 70 (by decide)
  have b71 : ρ'.b 71 = D := Ag.b 71 (by decide)
  have v60 : ρ'.v 60 = e := congrFun Ag.v 60
  obtain ⟨hge, hX⟩ := bl (100, .cells [hdl (tgT b), ptr0 71, .int .u64 (.lit 150)] 73) (List.mem_singleton.2 rfl)
  have hX : (Blk.obj 73 [hV (tgT b), ptrV (ρ'.b 71), .int .u64 150]).at Tryd.prog w1 (ρ'.b 100) := hX
  have hge : w.heap.size ≤ ρ'.b 100 := hge
  have M : AlMem b T D (ρ'.b 100) w1 := ⟨f1.cell hD, blk_cell hX rfl, by rw [← b71]; exact blk_cell hX (i := 1) rfl, blk_cell hX rfl, ⟨y, blk_keep hT f1⟩, hne, fun e => by
    have h1 : T < w.heap.size := Blk.at_lt hT
    omega⟩
  have F1' : AlH b T (ρ'.b 100) e fr1 := by
    have e0 : [0, 1, 3, 6, 8].zip (AV.evs ρ' [.opq 60, .iface (tgT b) (ptr0 70), rty (tgE b), ptr0 100, FB]) = [(0, e), (1, .iface (tgT b) (ptrV T)), (3, rtV (tgE b)), (6, ptrV (ρ'.b 100)), (8, .bool false)] := by
      show [(0, ρ'.v 60), (1, Value.iface (tgT b) (ptrV (ρ'.b 70))), (3, rtV (tgE b)), (6, ptrV (ρ'.b 100)), (8, Value.bool false)] = _
      rw [b70, v60]
    show FA 36 62 alT [] .normal [(0, e), (1, .iface (tgT b) (ptrV T)), (3, rtV (tgE b)), (6, ptrV (ρ'.b 100)), (8, .bool false)] fr1
    rw [← e0]; exact F1
  refine (al_run h hk f1 M F1').trans fun g2 w2 hd2 => ?_
  obtain ⟨fr2, rfl, O⟩ := hd2
  have O := O.after f1
  obtain ⟨kk, F2⟩ := O.fr
  refine (leave_at (ρ := mkE [] [] [(60, .bool (asOf b e k n).isSome)]) (lA := [(8, .opq 60)]) (bs := []) (mem := []) F2 (a := .opq 60) (fun p hp => hp) (fun st => by kernel_rfl) (fun q hq => by cases hq) (fun q hq => by cases hq)).mono fun g3 w3 hd3 => ?_
  obtain ⟨fr3, rfl, rfl, hL⟩ := hd3
  exact ⟨fr3, _, rfl, hL, rfl, O.keep, O.set⟩
theorem as_all (h : ErrAt w e l k n) (hk : k ≠ 0) (hty : TypeAt w) {y : Value} (hT : (Blk.obj (tgE b) [y]).at Tryd.prog w T) :
    Ans 26 #[e, .iface (tgT b) (ptrV T)] w (AsOut b T w (asOf b e k n)) := by
  refine ans_of fun cs => ?_
  obtain ⟨t, p, rfl⟩ := h.is hk
  let ρ : Env := mkE [] [(70, T)] [(60, p)]
  refine (pieceF (ρ := ρ) (asIn b t (stOf _)) rfl rfl (asInLow b t _) (by kernel_rfl) ((enter2 ent26 rfl (.iface t p) (.iface (tgT b) (ptrV T))).rel (.inl rfl) [(0, .iface t (.opq 60)), (1, .iface (tgT b) (ptr0 70))] rfl rfl) (fun p hp => by cases hp) (fun q hq => by
    obtain rfl := List.mem_singleton.1 hq
    exact hty) (List.nodup_cons.2 ⟨List.not_mem_nil, List.nodup_nil⟩)).trans fun g1 w1 hd => ?_
  obtain ⟨ρ', fr1, rfl, f1, Ag, F1, bl⟩ := hd
  have b70 : ρ'.b 70 = T := Ag.b 70 (by decide)
  have v60 : ρ'.v 60 = p := congrFun Ag.v 60
  obtain ⟨hge, hD⟩ := bl (100, .cells [ptr0 70] (tgT b)) (List.mem_singleton.2 rfl)
  have hge : w.heap.size ≤ ρ'.b 100 := hge
  have hD : (Blk.obj (tgT b) [ptrV (ρ'.b 70)]).at Tryd.prog w1 (ρ'.b 100) := hD
  have F1' : FA 26 42 asT [] .normal [(37, .iface t p), (38, .iface (tgT b) (ptrV T)), (39, vaV (tgT b) (ρ'.b 100)), (40, rtV (tgE b))] fr1 := by
    have e0 : [37, 38, 39, 40].zip (AV.evs ρ' [.iface t (.opq 60), .iface (tgT b) (ptr0 70), vaA (tgT b) 100, rty (tgE b)]) = [(37, .iface t p), (38, .iface (tgT b) (ptrV T)), (39, vaV (tgT b) (ρ'.b 100)), (40, rtV (tgE b))] := by
      show [(37, Value.iface t (ρ'.v 60)), (38, Value.iface (tgT b) (ptrV (ρ'.b 70))), (39, vaV (tgT b) (ρ'.b 100)), (40, rtV (tgE b))] = _
      rw [b70, v60]
    rw [← e0]; exact F1
  refine (op_call (ρ := mkE [] [] [(50, .iface t p), (51, .iface (tgT b) (ptrV T)), (52, vaV (tgT b) (ρ'.b 100)), (53, rtV (tgE b))]) (lA := [(37, .opq 50), (38, .opq 51), (39, .opq 52), (40, .opq 53)]) (bs := []) (mem := []) (f := 36) (args := [.opq 50, .opq 51, .opq 52, .opq 53]) (d := 41) (Q := AsOut b T w (asOf b (.iface t p) k n)) F1' (fun p hp => hp) (fun st => by kernel_rfl) (fun st => by kernel_rfl) (fun st => by kernel_rfl) (fun p hp => by cases hp) (fun p hp => by cases hp) (by kernel_rfl) (by decide) rfl (fun w2 f2 => ?_)).trans fun g3 w3 hd3 => ?_
  · refine (as36 (D := ρ'.b 100) (h.keep (f1.trans f2)) hk ?_ (blk_keep hT (f1.trans f2)) ?_).mono fun v w3 O => O.after (f1.trans f2)
    · have := f2.cell (blk_cell hD (i := 0) rfl)
      rwa [b70] at this
    · intro e
      have h1 : T < w.heap.size := Blk.at_lt hT
      omega
  · obtain ⟨fr3, v, rfl, O, F3⟩ := hd3
    refine (pieceF (ρ := mkE [] [] [(60, v)]) (asOut (stOf fr3)) rfl rfl (asOutLow _) (by kernel_rfl) ((F3.sub (lv' := [(41, v)]) (fun q hq => by
      obtain rfl := List.mem_singleton.1 hq
      exact List.mem_cons_self ..)).rel (.inl rfl) [(41, .opq 60)] rfl rfl) (fun p hp => by cases hp) (fun p hp => by cases hp) List.nodup_nil).trans fun g4 w4 hd4 => ?_
    obtain ⟨ρ4, fr4, rfl, f4, Ag4, F4, _⟩ := hd4
    have v60 : ρ4.v 60 = v := congrFun Ag4.v 60
    have F4' : FA 26 42 [.code .ret] [] .normal [(4, v)] fr4 := by rw [← v60]; exact F4
    refine (leave_at (ρ := mkE [] [] [(60, v)]) (lA := [(4, .opq 60)]) (bs := []) (mem := []) F4' (a := .opq 60) (fun p hp => hp) (fun st => by kernel_rfl) (fun q hq => by cases hq) (fun q hq => by cases hq)).mono fun g5 w5 hd5 => ?_
    obtain ⟨fr5, rfl, rfl, hL⟩ := hd5
    exact ⟨fr5, v, rfl, hL, O.v, O.keep.trans (f4.mono fun n hn => .inl (Nat.le_trans O.keep.size hn)), fun y hy => blk_keep (O.set y hy) f4⟩
end
end Go.Proofs.YtojifefdokekpaaDoor
set_option maxRecDepth 100000
set_option linter.unusedVariables false
set_option linter.unusedSimpArgs false
namespace Go.Proofs.YtojifefdokekpaaDoor
open Go.Proofs.YtojifefdokekpaaDoor.SX Go.Conc
theorem leave_tmp {f nt d : Nat} {k : List Item} {lv : List (Nat × Value)} {fr : Frame} {cs : List Frame} {w : World} {x : Value} (he : ∀ st, results? Tryd.prog (OO [] []) hN f (tmpsOf nt st [(d, .opq 60)]) = .ok (.opq 60)) (hf : FA f nt (.code .ret :: k) [] .normal lv fr) (hx : (d, x) ∈ lv) :
    Goes (G fr cs) w fun g' w' => ∃ fr', g' = G fr' cs ∧ w' = w ∧ Leav f fr' w' x :=
  leave_at (ρ := mkE [] [] [(60, x)]) (lA := [(d, .opq 60)]) (bs := []) (mem := []) hf (a := .opq 60) (fun p hp => by obtain rfl := List.mem_singleton.1 hp; exact hx) he (fun q hq => by cases hq) (fun q hq => by cases hq)
theorem ansP {f nt d : Nat} {body : Code} {args : Array Value} {lv : List (Nat × Value)} {w : World} {lA : List (Nat × AV)} {bs : List (BE × Bool)} {mem : List (AA × AV)} {m : Nat} {ks : List Nat} {k : List Item} {post : List (Nat × ABlk)} {rA : AV} {ρ : Env}
    (hent : FA f nt [.code body] [] .normal lv (Frame.enter Tryd.prog f args .normal)) (hlv : told ρ lA = lv) (q : ∀ st, seeF (runZ bs mem m ks (cfg ⟨f, nt, tmpsOf nt st lA, [.code body], [], .run, .normal⟩ [] [])) [d] noL = some (⟨f, nt, .code .ret :: k, [], .run, .normal, [], post, [rA]⟩, []))
    (hl : ∀ st, cfgLow 100 (cfg ⟨f, nt, tmpsOf nt st lA, [.code body], [], .run, .normal⟩ [] []) = true) (hO : (OO bs mem).low 100 = true) (he : ∀ st, results? Tryd.prog (OO [] []) hN f (tmpsOf nt st [(d, .opq 60)]) = .ok (.opq 60)) (hb : ∀ p ∈ bs, p.1.ev ρ = p.2) (hm : ∀ p ∈ mem, w.cell? (p.1.ev ρ) = some (p.2.ev ρ)) (hnd : (post.map (·.1)).Nodup) :
    Ans f args w fun v w' => Fresh w w' ∧ ∃ ρ', Agree (Below 100) ρ ρ' ∧ v = rA.ev ρ' ∧ ∀ x ∈ post, w.heap.size ≤ ρ'.b x.1 ∧ (blkOf ρ' x.2).at Tryd.prog w' (ρ'.b x.1) := by
  refine ans_of fun cs => ?_
  refine (pieceF (ρ := ρ) (q _) rfl rfl (hl _) hO (hent.rel (.inl rfl) lA hlv rfl) hb hm hnd).trans fun g1 w1 hd => ?_
  obtain ⟨ρ', fr1, rfl, f1, Ag, F1, bl⟩ := hd
  refine (leave_tmp he F1 (List.mem_singleton.2 rfl)).mono fun g2 w2 hd2 => ?_
  obtain ⟨fr2, rfl, rfl, hL⟩ := hd2
  exact ⟨fr2, _, rfl, hL, f1, ρ', Ag, rfl, bl⟩
def clsOf (k : Nat) (n : Int) : Int := if k = 0 then 0 else if k ≤ 4 then cod k else if k = 7 then n else 23
theorem ent6 : enterA Tryd.prog 6 [.opq 0] .normal = .ok ⟨6, 10, entT 6 [.opq 0], [.code (bodyOf Tryd.f6)], [], .run, .normal⟩ := by kernel_rfl
noncomputable def ciQ (l : List Nat) : Code := pc (bodyOf Tryd.f6) l
noncomputable def ciT (l : List Nat) : List Item := [.inRegion (opsOf (ciQ [1,1,1,0,0])) l, .code (ciQ [1,1,1,0,1]), .code (ciQ [1,1,1,1])]
noncomputable def ciF (t : List Item) (l : List (Nat × AV)) (st : Nat → Value) : AFrame := ⟨6, 10, tmpsOf 10 st l, t, [], .run, .normal⟩
theorem ciNil (st : Nat → Value) : seeF (runZ [] [] 15 [] (cfg (ciF [.code (bodyOf Tryd.f6)] [(0, .nilIface)] st) [] [])) [2] noL = some (⟨6, 10, .code .ret :: [.code (ciQ [1,1])], [], .run, .normal, [], [], [i64 (.lit 0)]⟩, []) := by kernel_rfl
theorem ciIn (t : Nat) (st : Nat → Value) : seeF (runZ [] [] 21 [100] (cfg (ciF [.code (bodyOf Tryd.f6)] [(0, .iface t (.opq 60))] st) [] [])) [3, 6, 7] noL = some (⟨6, 10, ciT [2], [], .run, .normal, [], [(100, .cells [i64 (.lit 0)] 29)], [ptr0 100, .iface t (.opq 60), .iface 59 (ptr0 100)]⟩, []) := by kernel_rfl
theorem ciInLow (t : Nat) (st : Nat → Value) : cfgLow 100 (cfg (ciF [.code (bodyOf Tryd.f6)] [(0, .iface t (.opq 60))] st) [] []) = true := by kernel_rfl
noncomputable def ciB : Bool → AV
  | true => TB
  | false => FB
noncomputable def ciM : Bool → List (AA × AV)
  | true => [(⟨.dyn 70, .lit 0⟩, i64 (v 2))]
  | false => []
noncomputable def ciR : Bool → IE
  | true => v 2
  | false => .lit 23
noncomputable def ciN : Bool → List Item
  | true => [.code (ciQ [1,1,1,1])]
  | false => []
def ciC : Bool → Nat
  | true => 7
  | false => 7
theorem ciOut (b : Bool) (st : Nat → Value) : seeF (runZ [] (ciM b) (ciC b) [] (cfg (ciF (ciT []) [(3, ptr0 70), (8, ciB b)] st) [] [])) [2] noL = some (⟨6, 10, .code .ret :: ciN b, [], .run, .normal, [], [], [i64 (ciR b)]⟩, []) := by cases b <;> kernel_rfl
theorem ciOutLow (b : Bool) (st : Nat → Value) : cfgLow 100 (cfg (ciF (ciT []) [(3, ptr0 70), (8, ciB b)] st) [] []) = true := by cases b <;> kernel_rfl
section
variable {w : World} {e : Value} {k : Nat} {n : Int} {l : List Int}
theorem asOf_cls (k : Nat) (n : Int) (hk : k ≠ 0) (h8 : k < 8) (e : Value) : match asOf false e k n with
    | some y => y = iV (clsOf k n)
    | none => clsOf k n = 23 := by
  rcases (by omega : k = 1 ∨ k = 2 ∨ k = 3 ∨ k = 4 ∨ k = 5 ∨ k = 6 ∨ k = 7) with rfl | rfl | rfl | rfl | rfl | rfl | rfl <;> rfl
theorem ErrAt.lt (h : ErrAt w e l k n) : k < 8 := by
  induction h <;> omega
theorem ErrAt.nil_is (h : ErrAt w e l 0 n) : e = .nilIface ∧ l = [] := by
  generalize hk : (0 : Nat) = k at h
  cases h with
  | nil n => exact ⟨rfl, rfl⟩
  | at' A x e l k n h h1 hk' he => exact (hk' hk.symm).elim
  | _ => cases hk
theorem class_all (h : ErrAt w e l k n) (hty : TypeAt w) : Ans 6 #[e] w fun v w' => Fresh w w' ∧ v = iV (clsOf k n) := by
  by_cases hk : k = 0
  · subst hk
    obtain ⟨rfl, rfl⟩ := h.nil_is
    refine (ansP (ρ := mkE [] [] []) (lA := [(0, .nilIface)]) (enter1 ent6 rfl .nilIface) rfl ciNil (fun st => by kernel_rfl) (by kernel_rfl) (fun st => by kernel_rfl) (fun p hp => by cases hp) (fun p hp => by cases hp) List.nodup_nil).mono fun v w' hd => ?_
    obtain ⟨f1, ρ', Ag, rfl, _⟩ := hd
    exact ⟨f1, rfl⟩
  · obtain ⟨t, p, rfl⟩ := h.is hk
    refine ans_of fun cs => ?_
    refine (pieceF (ρ := mkE [] [] [(60, p)]) (ciIn t (stOf _)) rfl rfl (ciInLow t _) (by kernel_rfl) ((enter1 ent6 rfl (.iface t p)).rel (.inl rfl) [(0, .iface t (.opq 60))] rfl rfl) (fun p hp => by cases hp) (fun q hq => by cases hq) (List.nodup_cons.2 ⟨List.not_mem_nil, List.nodup_nil⟩)).trans fun g1 w1 hd => ?_
    obtain ⟨ρ', fr1, rfl, f1, Ag, F1, bl⟩ := hd
    have v60 : ρ'.v 60 = p := congrFun Ag.v 60
    obtain ⟨hge, hT⟩ := bl (100, .cells [i64 (.lit 0)] 29) (List.mem_singleton.2 rfl)
    have hge : w.heap.size ≤ ρ'.b 100 := hge
    have hT : (Blk.obj (tgE false) [iV 0]).at Tryd.prog w1 (ρ'.b 100) := hT
    have F1' : FA 6 10 (ciT [2]) [] .normal [(3, ptrV (ρ'.b 100)), (6, .iface t p), (7, .iface 59 (ptrV (ρ'.b 100)))] fr1 := by
      rw [← v60]; exact F1
    refine (op_call (ρ := mkE [] [] [(50, .iface t p), (51, .iface 59 (ptrV (ρ'.b 100)))]) (lA := [(6, .opq 50), (7, .opq 51)]) (bs := []) (mem := []) (f := 26) (args := [.opq 50, .opq 51]) (d := 8) (Q := AsOut false (ρ'.b 100) w1 (asOf false (.iface t p) k n)) F1' (fun q hq => List.mem_cons_of_mem _ hq) (fun st => by kernel_rfl) (fun st => by kernel_rfl) (fun st => by kernel_rfl) (fun p hp => by cases hp) (fun p hp => by cases hp) (by kernel_rfl) (by decide) rfl (fun w2 f2 => (as_all (b := false) (h.keep (f1.trans f2)) hk (f2.cell (f1.cell hty)) (blk_keep hT f2)).mono fun v w3 O => O.after f2)).trans fun g2 w2 hd2 => ?_
    obtain ⟨fr2, vv, rfl, O, F2⟩ := hd2
    have hfw : Fresh w w2 := (Keeps.trans f1 (O.keep.mono fun m hm => hm.elim (fun x => Nat.le_trans f1.size x) (fun x => by rw [x]; exact hge)))
    have hv := O.v
    subst hv
    obtain ⟨o, ho⟩ : ∃ o, o = asOf false (.iface t p) k n := ⟨_, rfl⟩
    have hc := asOf_cls k n hk h.lt (.iface t p)
    rw [← ho] at F2 hc
    have hset : ∀ y, o = some y → w2.cell? ⟨ρ'.b 100, 0, none⟩ = some y := fun y hy => blk_cell (O.set y (ho ▸ hy)) rfl
    have F2' : FA 6 10 (ciT []) [] .normal [(3, ptrV (ρ'.b 100)), (8, .bool o.isSome)] fr2 := F2.sub fun q hq => by
      simp only [List.mem_cons, List.not_mem_nil, or_false] at hq
      rcases hq with rfl | rfl
      · exact List.mem_cons_of_mem _ (List.mem_filter.2 ⟨List.mem_cons_self .., rfl⟩)
      · exact List.mem_cons_self ..
    refine (pieceF (ρ := mkE [(2, clsOf k n)] [(70, ρ'.b 100)] []) (ciOut o.isSome (stOf fr2)) rfl rfl (ciOutLow _ _) (by cases o.isSome <;> kernel_rfl) (F2'.rel (.inl rfl) [(3, ptr0 70), (8, ciB o.isSome)] (by cases o.isSome <;> rfl) rfl) (fun p hp => by cases hp) (fun q hq => ?_) List.nodup_nil).trans fun g3 w3 hd3 => ?_
    · cases o with
      | none => cases hq
      | some y =>
        obtain rfl := List.mem_singleton.1 hq
        have : w2.cell? ⟨ρ'.b 100, 0, none⟩ = some (iV (clsOf k n)) := by rw [hset y rfl]; exact congrArg some hc
        exact this
    · obtain ⟨ρ3, fr3, rfl, f3, Ag3, F3, _⟩ := hd3
      refine (leave_tmp (fun st => by kernel_rfl) F3 (List.mem_singleton.2 rfl)).mono fun g4 w4 hd4 => ?_
      obtain ⟨fr4, rfl, rfl, hL⟩ := hd4
      refine ⟨fr4, _, rfl, hL, hfw.trans f3, ?_⟩
      cases o with
      | none =>
        have hc : clsOf k n = 23 := hc
        rw [hc]; rfl
      | some y =>
        have : ρ3.i 2 = clsOf k n := Ag3.i 2 (by decide)
        show Value.int .i64 (ρ3.i 2) = _
        rw [this]; rfl
theorem ent7 : enterA Tryd.prog 7 [.opq 0] .normal = .ok ⟨7, 17, entT 7 [.opq 0], [.code (bodyOf Tryd.f7)], [], .run, .normal⟩ := by kernel_rfl
noncomputable def rcE (k : Nat) : List (Nat × AV) := [(0, .agg [i64 (.lit (Int.ofNat k)), i64 (v 2), .opq 59])]
def rcN : Nat → Nat
  | 0 => 22 | 2 => 28 | 3 => 34 | 4 => 40 | _ => 48
noncomputable def rcR : Nat → IE
  | 0 => .lit 0 | 2 => .lit 20 | 3 => .lit 21 | 4 => .lit 22 | 7 => v 2 | _ => .lit 23
noncomputable def rcT : Nat → List Item
  | 1 => [] | 5 => [] | 6 => []
  | _ => [.inBlock 0, .code (pc (bodyOf Tryd.f7) [1,1])]
theorem rcAll {k : Nat} (hk : k < 8) (st : Nat → Value) : seeF (runZ [] [] (rcN k) [] (cfg ⟨7, 17, tmpsOf 17 st (rcE k), [.code (bodyOf Tryd.f7)], [], .run, .normal⟩ [] [])) [2] noL = some (⟨7, 17, .code .ret :: rcT k, [], .run, .normal, [], [], [i64 (rcR k)]⟩, []) := by
  rcases (by omega : k = 0 ∨ k = 1 ∨ k = 2 ∨ k = 3 ∨ k = 4 ∨ k = 5 ∨ k = 6 ∨ k = 7) with rfl | rfl | rfl | rfl | rfl | rfl | rfl | rfl <;> kernel_rfl
theorem refClass_all {s : Value} (hk : k < 8) : Ans 7 #[errV k n s] w fun v w' => Fresh w w' ∧ v = iV (clsOf k n) := by
  refine (ansP (ρ := mkE [(2, n)] [] [(59, s)]) (lA := rcE k) (enter1 ent7 rfl (errV k n s)) rfl (rcAll hk) (fun st => by kernel_rfl) (by kernel_rfl) (fun st => by kernel_rfl) (fun p hp => by cases hp) (fun p hp => by cases hp) List.nodup_nil).mono fun v w' hd => ?_
  obtain ⟨f1, ρ', Ag, rfl, _⟩ := hd
  refine ⟨f1, ?_⟩
  have i2 : ρ'.i 2 = n := Ag.i 2 (by decide)
  rcases (by omega : k = 0 ∨ k = 1 ∨ k = 2 ∨ k = 3 ∨ k = 4 ∨ k = 5 ∨ k = 6 ∨ k = 7) with rfl | rfl | rfl | rfl | rfl | rfl | rfl | rfl
  all_goals first | rfl | (show Value.int .i64 (ρ'.i 2) = _; rw [i2]; rfl)
theorem ent12 : enterA Tryd.prog 12 [.opq 0, .opq 1] .normal = .ok ⟨12, 12, entT 12 [.opq 0, .opq 1], [.code (bodyOf Tryd.f12)], [], .run, .normal⟩ := by kernel_rfl
theorem wrNil (st : Nat → Value) : seeF (runZ [] [] 15 [] (cfg ⟨12, 12, tmpsOf 12 st [(0, i64 (v 1)), (1, .nilIface)], [.code (bodyOf Tryd.f12)], [], .run, .normal⟩ [] [])) [4] noL = some (⟨12, 12, .code .ret :: [.code (pc (bodyOf Tryd.f12) [1,1])], [], .run, .normal, [], [], [.nilIface]⟩, []) := by kernel_rfl
theorem wrIn (t : Nat) (st : Nat → Value) : seeF (runZ [] [] 21 [100] (cfg ⟨12, 12, tmpsOf 12 st [(0, i64 (v 1)), (1, .iface t (.opq 60))], [.code (bodyOf Tryd.f12)], [], .run, .normal⟩ [] [])) [4] noL = some (⟨12, 12, .code .ret :: [], [], .run, .normal, [], [(100, .cells [i64 (v 1), .iface t (.opq 60)] 57)], [.iface 44 (ptr0 100)]⟩, []) := by kernel_rfl
theorem wrap_all {x : Int} (h : ErrAt w e l k n) : Ans 12 #[iV x, e] w fun v w' => Fresh w w' ∧ ErrAt w' v (if k = 0 then [] else x :: l) k n := by
  by_cases hk : k = 0
  · subst hk
    obtain ⟨rfl, rfl⟩ := h.nil_is
    refine (ansP (ρ := mkE [(1, x)] [] []) (lA := [(0, i64 (v 1)), (1, .nilIface)]) (enter2 ent12 rfl (iV x) .nilIface) rfl wrNil (fun st => by kernel_rfl) (by kernel_rfl) (fun st => by kernel_rfl) (fun p hp => by cases hp) (fun p hp => by cases hp) List.nodup_nil).mono fun v w' hd => ?_
    obtain ⟨f1, ρ', Ag, rfl, _⟩ := hd
    exact ⟨f1, .nil n⟩
  · obtain ⟨t, p, rfl⟩ := h.is hk
    refine (ansP (ρ := mkE [(1, x)] [] [(60, p)]) (lA := [(0, i64 (v 1)), (1, .iface t (.opq 60))]) (enter2 ent12 rfl (iV x) (.iface t p)) rfl (wrIn t) (fun st => by kernel_rfl) (by kernel_rfl) (fun st => by kernel_rfl) (fun p hp => by cases hp) (fun p hp => by cases hp) (List.nodup_cons.2 ⟨List.not_mem_nil, List.nodup_nil⟩)).mono fun v w' hd => ?_
    obtain ⟨f1, ρ', Ag, rfl, bl⟩ := hd
    have hB := (bl _ (List.mem_singleton.2 rfl)).2
    have i1 : ρ'.i 1 = x := Ag.i 1 (by decide)
    have v60 : ρ'.v 60 = p := congrFun Ag.v 60
    rw [if_neg hk]
    refine ⟨f1, .at' _ _ _ _ _ _ ?_ ?_ hk (h.keep f1)⟩
    · rw [← i1]; exact blk_cell hB (i := 0) rfl
    · rw [← v60]; exact blk_cell hB (i := 1) rfl
end
end Go.Proofs.YtojifefdokekpaaDoor
set_option maxRecDepth 100000
set_option linter.unusedVariables false
set_option linter.unusedSimpArgs false
namespace Go.Proofs.YtojifefdokekpaaDoor
open Go.Proofs.YtojifefdokekpaaDoor.SX Go.Conc
theorem FAt.full1 {P : Program} {fn : FuncId} {nt : Nat} {todo : List Item} {ds : List Deferred} {kind : CallKind} {lv lv' : List (Nat × Value)} {fr : Frame} (h : FAt P fn nt todo ds kind lv fr) (hs : ∀ p ∈ lv', p ∈ lv ∨ p.2 = stOf fr p.1) : FAt P fn nt todo ds kind lv' fr := by
  obtain ⟨⟨tm, rfl, h2, h3⟩, h4, h5⟩ := h
  refine ⟨⟨tm, rfl, h2, fun p hp => ?_⟩, h4, h5⟩
  rcases hs p hp with h | h
  · exact h3 p h
  · exact h.symm
noncomputable def nmQ (l : List Nat) : Code := pc (bodyOf Tryd.f9) l
noncomputable def nmT : List Item := [.code (nmQ [1,1,0,0]), .inLoop (nmQ [1,1,0,0]), .inBlock 0]
noncomputable def nmC (l : List Nat) : List Item := [.inRegion (opsOf (nmQ [1,1,0,0,0,1,0,0])) l, .code (nmQ [1,1,0,0,0,1,0,1]), .code (nmQ [1,1,0,0,0,1,1]), .inBlock 1, .inLoop (nmQ [1,1,0,0]), .inBlock 0]
noncomputable def nmR : List Item := [.code (nmQ [1,1,0,0,0,1,1]), .inBlock 1, .inLoop (nmQ [1,1,0,0]), .inBlock 0]
noncomputable def nmF (t : List Item) (l : List (Nat × AV)) (st : Nat → Value) : AFrame := ⟨9, 25, tmpsOf 25 st l, t, [], .run, .normal⟩
theorem nmIn (st : Nat → Value) : seeF (runZ [] [] 10 [] (cfg (nmF [.code (bodyOf Tryd.f9)] [(0, .opq 60)] st) [] [])) [0, 3] noL = some (⟨9, 25, nmT, [], .run, .normal, [], [], [.opq 60, nilA]⟩, []) := by kernel_rfl
theorem nmInLow (st : Nat → Value) : cfgLow 100 (cfg (nmF [.code (bodyOf Tryd.f9)] [(0, .opq 60)] st) [] []) = true := by kernel_rfl
theorem nmCall (st : Nat → Value) : seeF (runZ [] [] 10 [100] (cfg (nmF nmT [(0, .opq 60), (3, .opq 61)] st) [] [])) [3, 4, 5, 6] noL = some (⟨9, 25, nmC [2, 3, 4, 5, 6, 7], [], .run, .normal, [], [(100, .cells [nilP] 44)], [.opq 61, ptr0 100, .opq 60, .iface 60 (ptr0 100)]⟩, []) := by kernel_rfl
theorem nmCallLow (st : Nat → Value) : cfgLow 100 (cfg (nmF nmT [(0, .opq 60), (3, .opq 61)] st) [] []) = true := by kernel_rfl
theorem nmNo (st : Nat → Value) : seeF (runZ [] [] 12 [] (cfg (nmF (nmC [3, 4, 5, 6, 7]) [(3, .opq 61), (4, ptr0 70), (7, FB)] st) [] [])) [2] noL = some (⟨9, 25, .code .ret :: nmR, [], .run, .normal, [], [], [.opq 61]⟩, []) := by kernel_rfl
theorem nmNoLow (st : Nat → Value) : cfgLow 100 (cfg (nmF (nmC [3, 4, 5, 6, 7]) [(3, .opq 61), (4, ptr0 70), (7, FB)] st) [] []) = true := by kernel_rfl
noncomputable def nY : Nat := 475368975085586025561263702110
noncomputable def sliZ (z : Bool) : AV := Bool.rec (.slice (some ⟨.dyn 52, .lit 0⟩) (v 8) (v 57)) nilA z
noncomputable def apBs (z : Bool) : List (BE × Bool) := Bool.rec [(.cmp .leq (.plus (.tn (v 8)) (.lit 1)) (.lit 1048576), true)] [] z
noncomputable def preZ (z : Bool) : List (Nat × ABlk) := Bool.rec [(52, .pre false 63 (v 8) [] [] [] 3 (v 57))] [] z
noncomputable def nmMe : List (AA × AV) := [(⟨.dyn 70, .lit 0⟩, ptr0 60), (⟨.dyn 60, .lit 0⟩, i64 (v 2)), (⟨.dyn 60, .lit 1⟩, .opq 62)]
noncomputable def nmFull (z : Bool) : List (Nat × AV) := [(3, sliZ z), (4, ptr0 70), (7, TB)] ++ ([0, 1, 2, 5, 6] ++ (List.range 17).map (· + 8)).map fun i => (i, .opq (i + 70))
noncomputable def nmE (z : Bool) : AFrame := nmF (nmC [3, 4, 5, 6, 7]) (nmFull z) fun _ => .nilIface
theorem nmTmps (z : Bool) (st : Nat → Value) : tmpsOf 25 st (nmFull z) = tmpsOf 25 (fun _ => .nilIface) (nmFull z) := by cases z <;> kernel_rfl
noncomputable def apZ (z : Bool) (b : Nat) : ABlk := Bool.rec (.pre false 63 (v 8) [] [] [i64 (v 2)] 3 (v b)) (.row [i64 (v 2)] 3 (v b)) z
noncomputable def apV (z : Bool) (b : Nat) : AV := Bool.rec (.slice (some ⟨.dyn b, .lit 0⟩) (.plus (.tn (v 8)) (.lit 1)) (v b)) (.slice (some ⟨.dyn b, .lit 0⟩) (.lit 1) (v b)) z
theorem nmYes (z : Bool) : seeF (runZ (apBs z) nmMe 11 [nY] (cfg (nmE z) [] (preZ z))) [0, 3] noL = some (⟨9, 25, nmT, [], .run, .normal, [], [(nY, apZ z nY)], [.opq 62, apV z nY]⟩, []) := by cases z <;> kernel_rfl
theorem nmYesLow (z : Bool) : cfgLow 100 (cfg (nmE z) [] (preZ z)) = true := by cases z <;> kernel_rfl
theorem asNil (st : Nat → Value) : seeF (runZ [] [] 15 [] (cfg ⟨26, 42, tmpsOf 42 st [(0, .nilIface), (1, .opq 61)], [.code (bodyOf Tryd.f26)], [], .run, .normal⟩ [] [])) [4] noL = some (⟨26, 42, .code .ret :: [.code (pc (bodyOf Tryd.f26) [1,1])], [], .run, .normal, [], [], [FB]⟩, []) := by kernel_rfl
noncomputable def siQ (l : List Nat) : Code := pc (bodyOf Tryd.f8) l
noncomputable def siT : List Item := [.code (siQ [1,1,0,1,0,0]), .inLoop (siQ [1,1,0,1,0,0]), .inBlock 0, .code (siQ [1,1,1])]
noncomputable def siF (t : List Item) (l : List (Nat × AV)) (st : Nat → Value) : AFrame := ⟨8, 26, tmpsOf 26 st l, t, [], .run, .normal⟩
noncomputable def sl6 : AV := .slice (some ⟨.dyn 51, v 56⟩) (v 51) (v 55)
noncomputable def ltB (i n : Nat) : List (BE × Bool) := [(.cmp .lss (v i) (.tn (v n)), true), (.cmp .leq (.lit 0) (v i), true), (.cmp .lss (v i) (.lit 0), false), (.cmp .geq (v i) (.tn (v n)), false)]
theorem siNil (st : Nat → Value) : seeF (runZ [] [] 36 [] (cfg (siF [.code (bodyOf Tryd.f8)] [(0, nilA), (1, nilA)] st) [] [])) [4] noL = some (⟨8, 26, .code .ret :: [], [], .run, .normal, [], [], [TB]⟩, []) := by kernel_rfl
theorem siIn (st : Nat → Value) : seeF (runZ [(.cmp .neq (.tn (v 51)) (.tn (v 51)), false)] [] 22 [] (cfg (siF [.code (bodyOf Tryd.f8)] [(0, sl5), (1, sl6)] st) [] [])) [0, 1, 5] noL = some (⟨8, 26, siT, [], .run, .normal, [], [], [sl5, sl6, i64 (.lit 0)]⟩, []) := by kernel_rfl
theorem siInLow (st : Nat → Value) : cfgLow 100 (cfg (siF [.code (bodyOf Tryd.f8)] [(0, sl5), (1, sl6)] st) [] []) = true := by kernel_rfl
noncomputable def siH (st : Nat → Value) : AFrame := siF siT [(0, sl5), (1, sl6), (5, i64 (v 5))] st
theorem siRound (st : Nat → Value) : seeF (runZ (ltB 5 51 ++ [(.cmp .neq (v 6) (v 6), false)]) [(brk 50 53 5, i64 (v 6)), (brk 51 56 5, i64 (v 6))] 23 [] (cfg (siH st) [] [])) [0, 1, 5] noL = some (⟨8, 26, siT, [], .run, .normal, [], [], [sl5, sl6, i64 (.op .add .i64 (v 5) (.lit 1))]⟩, []) := by kernel_rfl
theorem siEnd (st : Nat → Value) : seeF (runZ [(.cmp .lss (v 5) (.tn (v 51)), false)] [] 14 [] (cfg (siH st) [] [])) [4] noL = some (⟨8, 26, .code .ret :: [], [], .run, .normal, [], [], [TB]⟩, []) := by kernel_rfl
theorem siHLow (st : Nat → Value) : cfgLow 100 (cfg (siH st) [] []) = true := by kernel_rfl
end Go.Proofs.YtojifefdokekpaaDoor
set_option maxRecDepth 100000
set_option linter.unusedVariables false
set_option linter.unusedSimpArgs false
namespace Go.Proofs.YtojifefdokekpaaDoor
open Go.Proofs.YtojifefdokekpaaDoor.SX Go.Conc
def NumsNe (w : World) (s : Value) (l : List Int) : Prop := (s = nilV ∧ l = []) ∨ (l ≠ [] ∧ ∃ A o c, s = slV A o l.length c ∧ ∀ i n, l[i]? = some n → w.cell? ⟨A, o + i, none⟩ = some (iV n))
def NumOut (w : World) (s : Value) (l : List Int) (w' : World) : Prop := (s = nilV ∧ l = []) ∨ (l ≠ [] ∧ ∃ B c, s = slV B 0 l.length c ∧ w.heap.size ≤ B ∧ (Blk.vec 3 c (l.map iV)).at Tryd.prog w' B)
theorem NumsNe.keep {w w' : World} {s : Value} {l : List Int} (h : NumsNe w s l) (f : Fresh w w') : NumsNe w' s l := by
  rcases h with h | ⟨h, A, o, c, h1, h2⟩
  · exact .inl h
  · exact .inr ⟨h, A, o, c, h1, fun i n hi => f.cell (h2 i n hi)⟩
theorem NumOut.ne {w w' : World} {s : Value} {l : List Int} (h : NumOut w s l w') : NumsNe w' s l := by
  rcases h with h | ⟨h, B, c, h1, h2, h3⟩
  · exact .inl h
  · refine .inr ⟨h, B, 0, c, h1, fun i n hi => ?_⟩
    rw [Nat.zero_add]
    refine Blk.at_cell h3 ?_
    show (l.map iV)[i]? = some (iV n)
    rw [List.getElem?_map, hi]; rfl
theorem ltB_ok {ρ : Env} {i n I N : Nat} (hi : ρ.i i = (I : Int)) (hn : ρ.i n = (N : Int)) (h : I < N) : ∀ p ∈ ltB i n, p.1.ev ρ = p.2 := by
  intro p hp
  simp only [ltB, List.mem_cons, List.not_mem_nil, or_false] at hp
  rcases hp with rfl | rfl | rfl | rfl
  · show decide (ρ.i i < (((ρ.i n).toNat : Nat) : Int)) = true
    rw [hi, hn]; exact decide_eq_true (by omega)
  · show decide ((0 : Int) ≤ ρ.i i) = true
    rw [hi]; exact decide_eq_true (by omega)
  · show decide (ρ.i i < 0) = false
    rw [hi]; exact decide_eq_false (by omega)
  · show decide (ρ.i i ≥ (((ρ.i n).toNat : Nat) : Int)) = false
    rw [hi, hn]; exact decide_eq_false (by omega)
theorem inc {i : Nat} (h : i < 1000000000) : iop .add .i64 (i : Int) 1 = ((i + 1 : Nat) : Int) := by
  show IntKind.wrap .i64 ((i : Int) + 1) = _
  rw [IntWalk.i64_in _ (by omega)]
  omega
theorem one_nodup {α : Type} {a : α} : [a].Nodup := List.nodup_cons.2 ⟨List.not_mem_nil, List.nodup_nil⟩
section
variable {w : World} {cs : List Frame} {fr : Frame} {e : Value} {k : Nat} {n : Int} {l : List Int}
theorem ent8 : enterA Tryd.prog 8 [.opq 0, .opq 1] .normal = .ok ⟨8, 26, entT 8 [.opq 0, .opq 1], [.code (bodyOf Tryd.f8)], [], .run, .normal⟩ := by kernel_rfl
theorem si_loop {A o c A' o' c' : Nat} (h1 : ∀ i n, l[i]? = some n → w.cell? ⟨A, o + i, none⟩ = some (iV n)) (h2 : ∀ i n, l[i]? = some n → w.cell? ⟨A', o' + i, none⟩ = some (iV n)) (hl : l.length ≤ 1000000) : ∀ (m i : Nat) {w1 : World} {fr : Frame}, i + m = l.length → Fresh w w1 → FA 8 26 siT [] .normal [(0, slV A o l.length c), (1, slV A' o' l.length c'), (5, iV i)] fr →
    Goes (G fr cs) w1 fun g' w' => ∃ fr', g' = G fr' cs ∧ Fresh w w' ∧ Leav 8 fr' w' (.bool true)
  | 0, i, w1, fr, him, fw, hf => by
    refine (pieceF (ρ := mkE [(5, i), (51, l.length), (52, c), (53, o), (55, c'), (56, o')] [(50, A), (51, A')] []) (siEnd (stOf fr)) rfl rfl (siHLow _) (by kernel_rfl) (hf.rel (.inl rfl) [(0, sl5), (1, sl6), (5, i64 (v 5))] rfl rfl) (fun q hq => by
      obtain rfl := List.mem_singleton.1 hq
      show decide ((i : Int) < (((((l.length : Nat) : Int)).toNat : Nat) : Int)) = false
      exact decide_eq_false (by omega)) (fun q hq => by cases hq) List.nodup_nil).trans fun g1 w2 hd => ?_
    obtain ⟨ρ', fr1, rfl, f1, Ag, F1, _⟩ := hd
    refine (leave_tmp (fun st => by kernel_rfl) F1 (List.mem_singleton.2 rfl)).mono fun g2 w3 hd2 => ?_
    obtain ⟨fr2, rfl, rfl, hL⟩ := hd2
    exact ⟨fr2, rfl, fw.trans f1, hL⟩
  | m + 1, i, w1, fr, him, fw, hf => by
    have hx : l[i]? = some l[i] := List.getElem?_eq_getElem (by omega)
    obtain ⟨ρ, hρ⟩ : ∃ ρ : Env, ρ = mkE [(5, i), (6, l[i]), (51, l.length), (52, c), (53, o), (55, c'), (56, o')] [(50, A), (51, A')] [] := ⟨_, rfl⟩
    refine (pieceF (ρ := ρ) (siRound (stOf fr)) rfl rfl (siHLow _) (by kernel_rfl) (hf.rel (.inl rfl) [(0, sl5), (1, sl6), (5, i64 (v 5))] (by rw [hρ]; rfl) rfl) (fun q hq => ?_) (fun q hq => ?_) List.nodup_nil).trans fun g1 w2 hd => ?_
    · rcases List.mem_append.1 hq with hq | hq
      · exact ltB_ok (I := i) (N := l.length) (by rw [hρ]; rfl) (by rw [hρ]; rfl) (by omega) q hq
      · obtain rfl := List.mem_singleton.1 hq
        show (!decide (ρ.i 6 = ρ.i 6)) = false
        simp
    · simp only [List.mem_cons, List.not_mem_nil, or_false] at hq
      rcases hq with rfl | rfl
      · rw [brk_ev (O := o) (I := i) (by rw [hρ]; rfl) (by rw [hρ]; rfl)]
        have := fw.cell (h1 i _ hx)
        rw [hρ]; exact this
      · rw [brk_ev (O := o') (I := i) (by rw [hρ]; rfl) (by rw [hρ]; rfl)]
        have := fw.cell (h2 i _ hx)
        rw [hρ]; exact this
    · obtain ⟨ρ', fr1, rfl, f1, Ag, F1, _⟩ := hd
      refine si_loop (c := c) (c' := c') h1 h2 hl m (i + 1) (by omega) (fw.trans f1) ?_
      have i5 : ρ'.i 5 = i := (Ag.i 5 (by decide)).trans (by rw [hρ]; rfl)
      have e1 : AV.evs ρ' [sl5, sl6, i64 (.op .add .i64 (v 5) (.lit 1))] = [slV A o l.length c, slV A' o' l.length c', iV ((i + 1 : Nat) : Int)] := by
        have es : AV.evs ρ' [sl5, sl6] = AV.evs ρ [sl5, sl6] := AV.evs_agree Ag _ (AV.lows_in _ (by kernel_rfl))
        have es1 : sl5.ev ρ' = sl5.ev ρ := (List.cons.inj es).1
        have es2 : sl6.ev ρ' = sl6.ev ρ := (List.cons.inj (List.cons.inj es).2).1
        show [sl5.ev ρ', sl6.ev ρ', iV (iop .add .i64 (ρ'.i 5) 1)] = _
        rw [es1, es2, i5, inc (by omega), hρ]
        rfl
      dsimp only at F1
      rw [e1] at F1
      exact F1
theorem same_all {a b : Value} (h1 : NumsNe w a l) (h2 : NumsNe w b l) (hl : l.length ≤ 1000000) : Ans 8 #[a, b] w fun v w' => Fresh w w' ∧ v = .bool true := by
  rcases h1 with ⟨rfl, rfl⟩ | ⟨hne, A, o, c, rfl, h1⟩
  · obtain ⟨rfl, _⟩ : b = nilV ∧ True := by
      rcases h2 with h | ⟨h, _⟩
      · exact ⟨h.1, trivial⟩
      · exact (h rfl).elim
    refine (ansP (ρ := mkE [] [] []) (lA := [(0, nilA), (1, nilA)]) (enter2 ent8 rfl nilV nilV) rfl siNil (fun st => by kernel_rfl) (by kernel_rfl) (fun st => by kernel_rfl) (fun p hp => by cases hp) (fun p hp => by cases hp) List.nodup_nil).mono fun v w' hd => ?_
    obtain ⟨f1, ρ', Ag, rfl, _⟩ := hd
    exact ⟨f1, rfl⟩
  · obtain ⟨A', o', c', rfl, h4⟩ : ∃ A' o' c', b = slV A' o' l.length c' ∧ ∀ i n, l[i]? = some n → w.cell? ⟨A', o' + i, none⟩ = some (iV n) := by
      rcases h2 with h | ⟨h, h3⟩
      · exact (hne h.2).elim
      · exact h3
    refine ans_of fun cs => ?_
    obtain ⟨ρ, hρ⟩ : ∃ ρ : Env, ρ = mkE [(51, l.length), (52, c), (53, o), (55, c'), (56, o')] [(50, A), (51, A')] [] := ⟨_, rfl⟩
    refine (pieceF (ρ := ρ) (siIn (stOf _)) rfl rfl (siInLow _) (by kernel_rfl) ((enter2 ent8 rfl (slV A o l.length c) (slV A' o' l.length c')).rel (.inl rfl) [(0, sl5), (1, sl6)] (by rw [hρ]; rfl) rfl) (fun q hq => by
      obtain rfl := List.mem_singleton.1 hq
      show (!decide ((((ρ.i 51).toNat : Nat) : Int) = (((ρ.i 51).toNat : Nat) : Int))) = false
      simp) (fun q hq => by cases hq) List.nodup_nil).trans fun g1 w1 hd => ?_
    obtain ⟨ρ', fr1, rfl, f1, Ag, F1, _⟩ := hd
    have e1 : AV.evs ρ' [sl5, sl6, i64 (.lit 0)] = [slV A o l.length c, slV A' o' l.length c', iV ((0 : Nat) : Int)] := by
      rw [AV.evs_agree Ag _ (AV.lows_in _ (by kernel_rfl)), hρ]
      rfl
    dsimp only at F1
    rw [e1] at F1
    refine (si_loop h1 h4 hl l.length 0 (by omega) f1 F1).mono fun g2 w2 hd2 => ?_
    obtain ⟨fr2, rfl, f2, hL⟩ := hd2
    exact ⟨fr2, _, rfl, hL, f2, rfl⟩
theorem ent9 : enterA Tryd.prog 9 [.opq 0] .normal = .ok ⟨9, 25, entT 9 [.opq 0], [.code (bodyOf Tryd.f9)], [], .run, .normal⟩ := by kernel_rfl
theorem as_nil {x : Value} : Ans 26 #[.nilIface, x] w fun v w' => Fresh w w' ∧ v = .bool false := by
  refine (ansP (ρ := mkE [] [] [(61, x)]) (lA := [(0, .nilIface), (1, .opq 61)]) (enter2 ent26 rfl .nilIface x) rfl asNil (fun st => by kernel_rfl) (by kernel_rfl) (fun st => by kernel_rfl) (fun p hp => by cases hp) (fun p hp => by cases hp) List.nodup_nil).mono fun v w' hd => ?_
  obtain ⟨f1, ρ', Ag, rfl, _⟩ := hd
  exact ⟨f1, rfl⟩
theorem size3 (inf : TypeInfo) (hi : Tryd.prog.info? 3 = some inf) : inf.size = 1 := by
  have e2 : (Tryd.prog.info? 3).map (fun x => x.size) = some 1 := by kernel_rfl
  rw [hi] at e2
  exact Option.some.inj e2
theorem NumOut.keep {w0 w1 w2 : World} {s : Value} {l : List Int} (h : NumOut w0 s l w1) (f : Fresh w1 w2) : NumOut w0 s l w2 := by
  rcases h with h | ⟨h, B, c, h1, h2, h3⟩
  · exact .inl h
  · exact .inr ⟨h, B, c, h1, h2, blk_keep h3 f⟩
theorem nm_step {w0 w : World} {s e' : Value} {T A : Nat} {x : Int} (fw : Fresh w0 w) (h : NumOut w0 s l w) (hl : l.length ≤ 1000000) (hT : w.cell? ⟨T, 0, none⟩ = some (ptrV A)) (hA : w.cell? ⟨A, 0, none⟩ = some (iV x)) (hA1 : w.cell? ⟨A, 1, none⟩ = some e') (hTn : ∀ B c n, s = slV B 0 n c → B ≠ T) (hAn : A < w0.heap.size) (hf : FA 9 25 (nmC [3, 4, 5, 6, 7]) [] .normal [(3, s), (4, ptrV T), (7, .bool true)] fr) :
    Goes (G fr cs) w fun g' w' => ∃ fr' s', g' = G fr' cs ∧ Fresh w0 w' ∧ NumOut w0 s' (l ++ [x]) w' ∧ FA 9 25 nmT [] .normal [(0, e'), (3, s')] fr' := by
  obtain ⟨z, B, c, hs, hz, hb⟩ : ∃ (z : Bool) (B c : Nat), s = (match z with | true => nilV | false => slV B 0 l.length c) ∧ (z = true → l = []) ∧ (z = false → w0.heap.size ≤ B ∧ (Blk.vec 3 c (l.map iV)).at Tryd.prog w B) := by
    rcases h with ⟨h1, h2⟩ | ⟨h1, B, c, h2, h3, h4⟩
    · exact ⟨true, 0, 0, h1, fun _ => h2, fun h => by cases h⟩
    · exact ⟨false, B, c, h2, fun h => (by cases h), fun _ => ⟨h3, h4⟩⟩
  obtain ⟨ρ, hρ⟩ : ∃ ρ : Env, ρ = { i := fun m => if m = 2 then x else if m = 8 then l.length else c, p := fun _ => false, v := fun m => if m = 62 then e' else if m = 63 then .agg (l.map iV).toArray else stOf fr (m - 70), b := fun m => if m = 70 then T else if m = 60 then A else B, bt := (none, []) } := ⟨_, rfl⟩
  have hfull : FA 9 25 (nmC [3, 4, 5, 6, 7]) [] .normal (told ρ (nmFull z)) fr := FAt.full1 hf fun p hp => by
    unfold told nmFull at hp
    rw [List.map_append, List.map_map] at hp
    rcases List.mem_append.1 hp with hp | hp
    · refine .inl ?_
      simp only [List.map_cons, List.map_nil, List.mem_cons, List.not_mem_nil, or_false] at hp ⊢
      rcases hp with rfl | rfl | rfl
      · refine .inl ?_
        rw [hs, hρ]
        cases z <;> rfl
      · refine .inr (.inl ?_)
        rw [hρ]; rfl
      · exact .inr (.inr rfl)
    · obtain ⟨m, hm, rfl⟩ := List.mem_map.1 hp
      refine .inr ?_
      rw [hρ]
      show (if m + 70 = 62 then e' else if m + 70 = 63 then .agg (l.map iV).toArray else stOf fr (m + 70 - 70)) = stOf fr m
      rw [if_neg (by omega), if_neg (by omega), Nat.add_sub_cancel]
  have hrel : FrRel Tryd.prog ρ (nmE z) fr := by
    have := hfull.rel (.inl rfl) (nmFull z) rfl (dA := []) rfl
    rw [nmTmps] at this
    exact this
  have hTlt : ∀ q : Nat × ABlk, q ∈ preZ z → q = (52, .pre false 63 (v 8) [] [] [] 3 (v 57)) ∧ z = false := fun q hq => by
    cases z with
    | true => cases hq
    | false => exact ⟨List.mem_singleton.1 hq, rfl⟩
  refine (pieceW (ρ := ρ) (preZ z) [(nY, apZ z nY)] (nmYes z) rfl rfl (nmYesLow z) (by cases z <;> kernel_rfl) hrel (fun q hq => ?_) (fun q hq => ?_) (fun q hq => ?_) (by cases z <;> simp [preZ]) one_nodup).mono fun g' w' hd => ?_
  · cases z with
    | true => cases hq
    | false =>
      obtain rfl := List.mem_singleton.1 hq
      rw [hρ]
      show decide ((((l.length : Int).toNat : Nat) : Int) + 1 ≤ 1048576) = true
      exact decide_eq_true (by omega)
  · have hne : ∀ b', (b' = T ∨ b' = A) → ∀ y ∈ preZ z, ρ.b y.1 ≠ b' := fun b' hb' y hy => by
      obtain ⟨rfl, rfl⟩ := hTlt y hy
      have e52 : ρ.b 52 = B := by rw [hρ]; rfl
      show ρ.b 52 ≠ b'
      rw [e52]
      rcases hb' with rfl | rfl
      · exact hTn B c l.length hs
      · have := (hb rfl).1
        omega
    simp only [nmMe, List.mem_cons, List.not_mem_nil, or_false] at hq
    rcases hq with rfl | rfl | rfl
    · refine ⟨?_, fun y hy => ?_⟩
      · rw [hρ]; exact hT
      · have := hne T (.inl rfl) y hy
        rw [hρ] at this ⊢; exact this
    · refine ⟨?_, fun y hy => ?_⟩
      · rw [hρ]; exact hA
      · have := hne A (.inr rfl) y hy
        rw [hρ] at this ⊢; exact this
    · refine ⟨?_, fun y hy => ?_⟩
      · rw [hρ]; exact hA1
      · have := hne A (.inr rfl) y hy
        rw [hρ] at this ⊢; exact this
  · obtain ⟨rfl, rfl⟩ := hTlt q hq
    refine ⟨.vec 3 c (l.map iV), ?_, rfl, ?_, fun inf hinf => ?_, (fun q hq => by cases hq), ?_⟩
    · rw [hρ]; exact (hb rfl).2
    · rw [hρ]; rfl
    · rw [size3 inf hinf, List.length_map, hρ]
      show l.length = ((l.length : Nat) : Int).toNat * 1
      omega
    · rw [hρ]; rfl
  · obtain ⟨ρ', fr', rfl, kp, Ag, f1, bl⟩ := hd
    obtain ⟨hown, hblk⟩ := bl (nY, apZ z nY) (List.mem_singleton.2 rfl)
    have i2 : ρ'.i 2 = x := (Ag.i 2 (by decide)).trans (by rw [hρ]; rfl)
    have i8 : ρ'.i 8 = l.length := (Ag.i 8 (by decide)).trans (by rw [hρ]; rfl)
    have v62 : ρ'.v 62 = e' := (congrFun Ag.v 62).trans (by rw [hρ]; rfl)
    have v63 : ρ'.v 63 = .agg (l.map iV).toArray := (congrFun Ag.v 63).trans (by rw [hρ]; rfl)
    have hlow : ∀ q, ownP ρ w (preZ z) q → w0.heap.size ≤ q := fun q hq => by
      rcases hq with hq | ⟨y, hy, e⟩
      · exact Nat.le_trans fw.size hq
      · obtain ⟨rfl, rfl⟩ := hTlt y hy
        have := (hb rfl).1
        have e52 : ρ.b 52 = B := by rw [hρ]; rfl
        have e : ρ.b 52 = q := e
        omega
    have hbv : blkOf ρ' (apZ z nY) = .vec 3 (ρ'.i nY).toNat ((l ++ [x]).map iV) := by
      rw [List.map_append]
      cases z with
      | true =>
        rw [hz rfl]
        show Blk.vec 3 (ρ'.i nY).toNat [iV (ρ'.i 2)] = _
        rw [i2]; rfl
      | false =>
        show Blk.vec 3 (ρ'.i nY).toNat (listV (ρ'.v 63) ++ [iV (ρ'.i 2)]) = _
        rw [v63, i2]; rfl
    have hsv : (apV z nY).ev ρ' = slV (ρ'.b nY) 0 (l ++ [x]).length (ρ'.i nY).toNat := by
      rw [List.length_append, List.length_singleton]
      cases z with
      | true => rw [hz rfl]; rfl
      | false =>
        show Value.slice (some ⟨ρ'.b nY, 0, none⟩) ((((ρ'.i 8).toNat : Nat) : Int) + 1).toNat (ρ'.i nY).toNat = _
        rw [i8]
        show Value.slice _ ((((l.length : Int).toNat : Nat) : Int) + 1).toNat _ = _
        rw [show ((((l.length : Int).toNat : Nat) : Int) + 1).toNat = l.length + 1 from by omega]
        rfl
    have hblk : (blkOf ρ' (apZ z nY)).at Tryd.prog w' (ρ'.b nY) := hblk
    rw [hbv] at hblk
    refine ⟨fr', _, rfl, Keeps.trans fw (kp.mono hlow), .inr ⟨by simp, _, _, rfl, hlow _ hown, hblk⟩, ?_⟩
    rw [← v62, ← hsv]
    exact f1
theorem nm_call {s : Value} (hf : FA 9 25 nmT [] .normal [(0, e), (3, s)] fr) :
    Goes (G fr cs) w fun g' w' => ∃ fr' T, g' = G fr' cs ∧ Fresh w w' ∧ w.heap.size ≤ T ∧ (Blk.obj (tgE true) [.pointer none]).at Tryd.prog w' T ∧ FA 9 25 (nmC [2, 3, 4, 5, 6, 7]) [] .normal [(3, s), (4, ptrV T), (5, e), (6, .iface 60 (ptrV T))] fr' := by
  refine (pieceF (ρ := mkE [] [] [(60, e), (61, s)]) (nmCall (stOf fr)) rfl rfl (nmCallLow _) (by kernel_rfl) (hf.rel (.inl rfl) [(0, .opq 60), (3, .opq 61)] rfl rfl) (fun q hq => by cases hq) (fun q hq => by cases hq) one_nodup).mono fun g2 w2 hd => ?_
  obtain ⟨ρ', fr2, rfl, f2, Ag, F2, bl⟩ := hd
  have v60 : ρ'.v 60 = e := congrFun Ag.v 60
  have v61 : ρ'.v 61 = s := congrFun Ag.v 61
  obtain ⟨hge, hT⟩ := bl (100, .cells [nilP] 44) (List.mem_singleton.2 rfl)
  refine ⟨fr2, ρ'.b 100, rfl, f2, hge, hT, ?_⟩
  rw [← v60, ← v61]
  exact F2
theorem nm_ask {s : Value} {T : Nat} {Q : Value → World → Prop} (hf : FA 9 25 (nmC [2, 3, 4, 5, 6, 7]) [] .normal [(3, s), (4, ptrV T), (5, e), (6, .iface 60 (ptrV T))] fr) (h : ∀ w', Fresh w w' → Ans 26 #[e, .iface 60 (ptrV T)] w' Q) :
    Goes (G fr cs) w fun g' w' => ∃ fr' v, g' = G fr' cs ∧ Q v w' ∧ FA 9 25 (nmC [3, 4, 5, 6, 7]) [] .normal [(3, s), (4, ptrV T), (7, v)] fr' := by
  refine (op_call (ρ := mkE [] [] [(50, e), (51, .iface 60 (ptrV T))]) (lA := [(5, .opq 50), (6, .opq 51)]) (bs := []) (mem := []) (f := 26) (args := [.opq 50, .opq 51]) (d := 7) (Q := Q) hf (fun q hq => ?_) (fun st => by kernel_rfl) (fun st => by kernel_rfl) (fun st => by kernel_rfl) (fun p hp => by cases hp) (fun p hp => by cases hp) (by kernel_rfl) (by decide) rfl h).mono fun g2 w2 hd2 => ?_
  · simp only [told, List.map_cons, List.map_nil, List.mem_cons, List.not_mem_nil, or_false] at hq
    rcases hq with rfl | rfl
    · exact List.mem_of_getElem? (i := 2) rfl
    · exact List.mem_of_getElem? (i := 3) rfl
  · obtain ⟨fr2, vv, rfl, O, F2⟩ := hd2
    refine ⟨fr2, vv, rfl, O, F2.sub fun q hq => ?_⟩
    simp only [List.mem_cons, List.not_mem_nil, or_false] at hq
    rcases hq with rfl | rfl | rfl
    · exact List.mem_cons_of_mem _ (List.mem_filter.2 ⟨List.mem_of_getElem? (i := 0) rfl, rfl⟩)
    · exact List.mem_cons_of_mem _ (List.mem_filter.2 ⟨List.mem_of_getElem? (i := 1) rfl, rfl⟩)
    · exact List.mem_cons_self ..
theorem nm_no {w0 : World} {s : Value} {T : Nat} (fw : Fresh w0 w) (hs : NumOut w0 s l w) (hf : FA 9 25 (nmC [3, 4, 5, 6, 7]) [] .normal [(3, s), (4, ptrV T), (7, .bool false)] fr) :
    Goes (G fr cs) w fun g' w' => ∃ fr' v, g' = G fr' cs ∧ Fresh w0 w' ∧ NumOut w0 v l w' ∧ Leav 9 fr' w' v := by
  refine (pieceF (ρ := mkE [] [(70, T)] [(61, s)]) (nmNo (stOf fr)) rfl rfl (nmNoLow _) (by kernel_rfl) (hf.rel (.inl rfl) [(3, .opq 61), (4, ptr0 70), (7, FB)] rfl rfl) (fun q hq => by cases hq) (fun q hq => by cases hq) List.nodup_nil).trans fun g3 w3 hd => ?_
  obtain ⟨ρ', fr3, rfl, f3, Ag, F3, _⟩ := hd
  have v61 : ρ'.v 61 = s := congrFun Ag.v 61
  refine (leave_tmp (fun st => by kernel_rfl) F3 (List.mem_singleton.2 rfl)).mono fun g4 w4 hd4 => ?_
  obtain ⟨fr4, rfl, rfl, hL⟩ := hd4
  refine ⟨fr4, _, rfl, fw.trans f3, hs.keep f3, ?_⟩
  rw [← v61]; exact hL
theorem NumOut.lt {w0 w1 : World} {s : Value} {B c : Nat} {m : Nat} (h : NumOut w0 s l w1) (e : s = slV B 0 m c) : B < w1.heap.size := by
  rcases h with ⟨h1, _⟩ | ⟨_, B', c', h1, _, h3⟩
  · rw [h1] at e; cases e
  · rw [h1] at e
    cases e
    exact Blk.at_lt h3
theorem NumOut.keepT {w0 w1 w2 : World} {s : Value} {T : Nat} (h : NumOut w0 s l w1) (f : Keeps (ownT w1 T) w1 w2) (hT : ∀ B c m, s = slV B 0 m c → B ≠ T) : NumOut w0 s l w2 := by
  rcases h with h | ⟨h, B, c, h1, h2, h3⟩
  · exact .inl h
  · refine .inr ⟨h, B, c, h1, h2, Blk.at_keep h3 f fun hh => ?_⟩
    have := Blk.at_lt h3
    rcases hh with hh | hh
    · omega
    · exact hT _ _ _ h1 hh
theorem nm_found {w0 w1 : World} {s e' : Value} {A kd : Nat} {x m : Int} {acc lc : List Int} (h : ErrAt w0 (.iface 44 (ptrV A)) lc kd m) (hk : kd ≠ 0) (hty : TypeAt w0) (hA : w0.cell? ⟨A, 0, none⟩ = some (iV x)) (hA1 : w0.cell? ⟨A, 1, none⟩ = some e') (hl : acc.length ≤ 1000000) (fw : Fresh w0 w1) (hs : NumOut w0 s acc w1) (hf : FA 9 25 nmT [] .normal [(0, .iface 44 (ptrV A)), (3, s)] fr) :
    Goes (G fr cs) w1 fun g' w' => ∃ fr' s', g' = G fr' cs ∧ Fresh w0 w' ∧ NumOut w0 s' (acc ++ [x]) w' ∧ FA 9 25 nmT [] .normal [(0, e'), (3, s')] fr' := by
  refine (nm_call hf).trans fun g2 w2 hd => ?_
  obtain ⟨fr2, T, rfl, f2, hge, hT, F2⟩ := hd
  refine (nm_ask (Q := AsOut true T w2 (some (ptrV A))) F2 fun w3 f3 => (as_all (b := true) (h.keep (fw.trans (f2.trans f3))) hk ((fw.trans (f2.trans f3)).cell hty) (blk_keep hT f3)).mono fun v w4 O => O.after f3).trans fun g3 w3 hd3 => ?_
  obtain ⟨fr3, vv, rfl, O, F3⟩ := hd3
  have hv := O.v
  subst hv
  have hTs : ∀ B c m, s = slV B 0 m c → B ≠ T := fun B c m e => by
    have := hs.lt e
    omega
  have hf3 : Fresh w0 w3 := Keeps.trans (fw.trans f2) (O.keep.mono fun q hq => by
    have h1 := fw.size
    have h2 := f2.size
    rcases hq with hq | rfl <;> omega)
  refine (nm_step (x := x) hf3 ((hs.keep f2).keepT O.keep hTs) hl (blk_cell (O.set _ rfl) rfl) (hf3.cell hA) (hf3.cell hA1) hTs (cellLt hA) F3).mono fun g4 w4 hd4 => ?_
  exact hd4
theorem nm_loop {w : World} (h : ErrAt w e l k n) (hty : TypeAt w) : ∀ (acc : List Int) {w1 : World} {s : Value} {fr : Frame}, acc.length + l.length ≤ 999999 → Fresh w w1 → NumOut w s acc w1 → FA 9 25 nmT [] .normal [(0, e), (3, s)] fr →
    Goes (G fr cs) w1 fun g' w' => ∃ fr' v, g' = G fr' cs ∧ Fresh w w' ∧ NumOut w v (acc ++ l ++ if k = 6 then [n] else []) w' ∧ Leav 9 fr' w' v := by
  have none' : ∀ {acc : List Int} {w1 : World} {s : Value} {fr : Frame} {e : Value}, (∀ T w2, Fresh w w2 → (Blk.obj (tgE true) [.pointer none]).at Tryd.prog w2 T → Ans 26 #[e, .iface 60 (ptrV T)] w2 (fun v w' => v = .bool false ∧ Keeps (ownT w2 T) w2 w')) → Fresh w w1 → NumOut w s acc w1 → FA 9 25 nmT [] .normal [(0, e), (3, s)] fr →
      Goes (G fr cs) w1 fun g' w' => ∃ fr' v, g' = G fr' cs ∧ Fresh w w' ∧ NumOut w v acc w' ∧ Leav 9 fr' w' v := by
    intro acc w1 s fr e ask fw hs hf
    refine (nm_call hf).trans fun g2 w2 hd => ?_
    obtain ⟨fr2, T, rfl, f2, hge, hT, F2⟩ := hd
    refine (nm_ask (Q := fun v w' => v = .bool false ∧ Keeps (ownT w2 T) w2 w') F2 fun w3 f3 => (ask T w3 (fw.trans (f2.trans f3)) (blk_keep hT f3)).mono fun v w4 O => ⟨O.1, (ownT.of f3).trans (O.2.mono fun q hq => hq.elim (fun x => .inl (Nat.le_trans f3.size x)) .inr)⟩).trans fun g3 w3 hd3 => ?_
    obtain ⟨fr3, vv, rfl, ⟨rfl, kp⟩, F3⟩ := hd3
    have hTs : ∀ B c m, s = slV B 0 m c → B ≠ T := fun B c m e => by
      have := hs.lt e
      omega
    have hf3 : Fresh w w3 := Keeps.trans (fw.trans f2) (kp.mono fun q hq => by
      have h1 := fw.size
      have h2 := f2.size
      rcases hq with hq | rfl <;> omega)
    exact nm_no hf3 ((hs.keep f2).keepT kp hTs) F3
  have base : ∀ {acc : List Int} {w1 : World} {s : Value} {fr : Frame} {e : Value} {kd : Nat} {m : Int}, ErrAt w e [] kd m → asOf true e kd m = none → kd ≠ 0 → Fresh w w1 → NumOut w s acc w1 → FA 9 25 nmT [] .normal [(0, e), (3, s)] fr →
      Goes (G fr cs) w1 fun g' w' => ∃ fr' v, g' = G fr' cs ∧ Fresh w w' ∧ NumOut w v acc w' ∧ Leav 9 fr' w' v := by
    intro acc w1 s fr e kd m he ha hk fw hs hf
    refine none' (fun T w2 f2 hT => (as_all (b := true) (he.keep f2) hk (f2.cell hty) hT).mono fun v w3 O => ?_) fw hs hf
    rw [ha] at O
    exact ⟨O.v, O.keep⟩
  have fin : ∀ {acc : List Int} {kd : Nat} {m : Int}, kd ≠ 6 → acc ++ [] ++ (if kd = 6 then [m] else []) = acc := fun {acc kd m} hk => by rw [if_neg hk, List.append_nil, List.append_nil]
  have end' : ∀ {acc : List Int} {w1 : World} {s : Value} {fr : Frame}, Fresh w w1 → NumOut w s acc w1 → FA 9 25 nmT [] .normal [(0, .nilIface), (3, s)] fr →
      Goes (G fr cs) w1 fun g' w' => ∃ fr' v, g' = G fr' cs ∧ Fresh w w' ∧ NumOut w v acc w' ∧ Leav 9 fr' w' v := fun fw hs hf =>
    none' (fun T w2 f2 hT => as_nil.mono fun v w3 O => ⟨O.2, ownT.of O.1⟩) fw hs hf
  induction h with
  | nil n => intro acc w1 s fr hl fw hs hf; rw [fin (by decide)]; exact end' fw hs hf
  | failed A n h => intro acc w1 s fr hl fw hs hf; rw [fin (by decide)]; exact base (.failed A n h) rfl (by decide) fw hs hf
  | cancelled A n h => intro acc w1 s fr hl fw hs hf; rw [fin (by decide)]; exact base (.cancelled A n h) rfl (by decide) fw hs hf
  | late A n h => intro acc w1 s fr hl fw hs hf; rw [fin (by decide)]; exact base (.late A n h) rfl (by decide) fw hs hf
  | panic A n h => intro acc w1 s fr hl fw hs hf; rw [fin (by decide)]; exact base (.panic A n h) rfl (by decide) fw hs hf
  | plain A o n h => intro acc w1 s fr hl fw hs hf; rw [fin (by decide)]; exact base (.plain A o n h) rfl (by decide) fw hs hf
  | errno n => intro acc w1 s fr hl fw hs hf; rw [fin (by decide)]; exact base (.errno n) rfl (by decide) fw hs hf
  | at0 A n h h1 =>
    intro acc w1 s fr hl fw hs hf
    refine (nm_found (.at0 A n h h1) (by decide) hty h h1 (by omega) fw hs hf).trans fun g2 w2 hd => ?_
    obtain ⟨fr2, s2, rfl, f2, hs2, F2⟩ := hd
    rw [if_pos rfl, List.append_nil]
    exact end' f2 hs2 F2
  | at' A x e l k n h h1 hk he ih =>
    intro acc w1 s fr hl fw hs hf
    simp only [List.length_cons] at hl
    refine (nm_found (.at' A x e l k n h h1 hk he) hk hty h h1 (by omega) fw hs hf).trans fun g2 w2 hd => ?_
    obtain ⟨fr2, s2, rfl, f2, hs2, F2⟩ := hd
    have := ih (acc ++ [x]) (by rw [List.length_append, List.length_singleton]; omega) f2 hs2 F2
    rwa [List.append_assoc acc [x] l] at this
def numsOf (l : List Int) (k : Nat) (n : Int) : List Int := l ++ if k = 6 then [n] else []
theorem numbers_all (h : ErrAt w e l k n) (hty : TypeAt w) (hl : l.length ≤ 999999) : Ans 9 #[e] w fun v w' => Fresh w w' ∧ NumOut w v (numsOf l k n) w' := by
  refine ans_of fun cs => ?_
  refine (pieceF (ρ := mkE [] [] [(60, e)]) (nmIn (stOf _)) rfl rfl (nmInLow _) (by kernel_rfl) ((enter1 ent9 rfl e).rel (.inl rfl) [(0, .opq 60)] rfl rfl) (fun q hq => by cases hq) (fun q hq => by cases hq) List.nodup_nil).trans fun g1 w1 hd => ?_
  obtain ⟨ρ', fr1, rfl, f1, Ag, F1, _⟩ := hd
  have v60 : ρ'.v 60 = e := congrFun Ag.v 60
  have F1' : FA 9 25 nmT [] .normal [(0, e), (3, nilV)] fr1 := by rw [← v60]; exact F1
  refine (nm_loop h hty [] (by simpa using hl) f1 (.inl ⟨rfl, rfl⟩) F1').mono fun g2 w2 hd2 => ?_
  obtain ⟨fr2, v, rfl, f2, hs, hL⟩ := hd2
  exact ⟨fr2, v, rfl, hL, f2, hs⟩
end
end Go.Proofs.YtojifefdokekpaaDoor
set_option maxRecDepth 100000
set_option linter.unusedVariables false
set_option linter.unusedSimpArgs false
namespace Go.Proofs.YtojifefdokekpaaDoor
open Go.Proofs.YtojifefdokekpaaDoor.SX Go.Conc
theorem add_no {b o i : Nat} : (⟨b, o, none⟩ : Addr).add i = ⟨b, o + i, none⟩ := by unfold Addr.add; split <;> simp_all
theorem wq_loadOld {P : Program} {Ev : Event → Prop} {E : Value → World → Prop} {w : World} {b o : Nat} {f : Nat → Value} (rd : ∀ a, Ev ⟨.cell a, false, false⟩) : ∀ (n j : Nat) (acc : Array Value), (∀ i, i < n → w.cell? ⟨b, o + (j + i), none⟩ = some (f (j + i))) → ∀ {Q : Array Value → World → Prop},
    Q (acc ++ ((List.range n).map fun i => f (j + i)).toArray) w → wq P Ev E (loadCellsFrom ⟨b, o, none⟩ j n acc) Q w
  | 0, j, acc, h, Q, hq => by simpa [loadCellsFrom] using hq
  | n + 1, j, acc, h, Q, hq => by
    simp only [loadCellsFrom, wq_bind]
    rw [wq_load, add_no]
    refine ⟨f j, h 0 (Nat.succ_pos n), rd _, wq_loadOld (f := f) rd n (j + 1) (acc.push (f j)) (fun i hi => ?_) ?_⟩
    · have := h (i + 1) (by omega)
      rw [show j + (i + 1) = j + 1 + i by omega] at this
      exact this
    · have e : acc.push (f j) ++ ((List.range n).map fun i => f (j + 1 + i)).toArray = acc ++ ((List.range (n + 1)).map fun i => f (j + i)).toArray := by
        rw [List.range_succ_eq_map]
        simp only [List.map_cons, List.map_map, Nat.add_zero]
        refine Array.ext' ?_
        simp only [Array.toList_append, Array.toList_push, List.append_assoc, List.singleton_append]
        congr 2
        refine List.map_congr_left fun i _ => ?_
        show f (j + 1 + i) = f (j + (i + 1))
        rw [show j + 1 + i = j + (i + 1) by omega]
      rw [e]
      exact hq
theorem apUnder : under? Tryd.prog 22 = .ok (.slice 3) := by kernel_rfl
theorem apSize : sizeOf? Tryd.prog 3 = .ok 1 := by kernel_rfl
theorem apBytes : (Tryd.prog.info? 3).map (fun i => (i.size, i.bytes)) = some (1, 8) := by kernel_rfl
theorem apZero : (zero? Tryd.prog 3).toOption.map AV.cells? = some (.ok [.int .i64 (.lit 0)]) := by kernel_rfl
theorem wq_app {Ev : Event → Prop} {E : Value → World → Prop} {w : World} {z1 z : Bool} {b1 b o c : Nat} {X P : List Int} (rd : ∀ a, Ev ⟨.cell a, false, false⟩) (nr : Ev ⟨.mark .noRoom, false, true⟩) (hz1 : z1 = true → X = []) (hc1 : ∀ i n, X[i]? = some n → w.cell? ⟨b1, 0 + i, none⟩ = some (iV n)) (hz : z = true → P = []) (hc : ∀ i n, P[i]? = some n → w.cell? ⟨b, o + i, none⟩ = some (iV n)) (hn : X.length + P.length ≤ 1048576) {Q : Value → World → Prop}
    (h0 : P = [] → Q (hdV z1 b1 0 X.length X.length) w) (h1 : P ≠ [] → ∀ (cap : Nat) (w0 : World) (arr : Array Value) (rest : List Value), w0.heap = w.heap → w0.tape = w.tape → w0.os = w.os → w0.output = w.output → arr.toList = (X ++ P).map iV ++ rest → arr.size = cap →
      Q (slV w.heap.size 0 (X ++ P).length cap) { w0 with heap := w0.heap.push (.cells arr 3 (0, 0)) }) :
    wq Tryd.prog Ev E (Builtin.append_ #[22, 22] 22 #[hdV z1 b1 0 X.length X.length, hdV z b o P.length c]) Q w := by
  obtain ⟨info, hinfo, hsz, hby⟩ : ∃ i, Tryd.prog.info? 3 = some i ∧ i.size = 1 ∧ i.bytes = 8 := by
    have := apBytes
    cases e : Tryd.prog.info? 3 with
    | none => rw [e] at this; cases this
    | some i =>
      rw [e] at this
      simp only [Option.map_some, Option.some.injEq, Prod.mk.injEq] at this
      exact ⟨i, rfl, this.1, this.2⟩
  obtain ⟨zv, hzv, hzc⟩ : ∃ z, zero? Tryd.prog 3 = .ok z ∧ z.cells? = .ok [.int .i64 (.lit 0)] := by
    have := apZero
    cases e : zero? Tryd.prog 3 with
    | error x => rw [e] at this; cases this
    | ok i =>
      rw [e] at this
      have h2 : some i.cells? = some (.ok [.int .i64 (.lit 0)]) := this
      exact ⟨i, rfl, Option.some.inj h2⟩
  have hval : ∀ {Q' : Nat → World → Prop} {w' : World}, Q' P.length w' → wq Tryd.prog Ev E (Builtin.lenOf (hdV z b o P.length c)) Q' w' := fun {Q' w'} hq => by
    cases z with
    | true => rw [hz rfl] at hq ⊢; exact hq
    | false => exact hq
  have hfirst : ∀ {z : Bool} {b o c : Nat} {P : List Int} {Q' : Array Value → World → Prop} {w' : World}, (z = true → P = []) → (∀ i n, P[i]? = some n → w.cell? ⟨b, o + i, none⟩ = some (iV n)) → w'.heap = w.heap → Q' (P.map iV).toArray w' → wq Tryd.prog Ev E (Builtin.firstCells 1 P.length (hdV z b o P.length c)) Q' w' := fun {z b o c P Q' w'} hz hc hw hq => by
    cases z with
    | true =>
      rw [hz rfl] at hq ⊢
      exact hq
    | false =>
      show wq Tryd.prog Ev E (loadCells ⟨b, o, none⟩ (P.length * 1)) Q' w'
      rw [Nat.mul_one]
      refine wq_loadOld (f := fun i => iV (P.getD i 0)) rd P.length 0 #[] (fun i hi => ?_) ?_
      · rw [Nat.zero_add]
        have := hc i P[i] (List.getElem?_eq_getElem hi)
        simp only [World.cell?] at this ⊢
        rw [hw, this]
        simp [List.getD_eq_getElem?_getD, List.getElem?_eq_getElem hi]
      · have e : ((List.range P.length).map fun i => iV (P.getD (0 + i) 0)) = P.map iV := by
          refine List.ext_getElem (by simp) fun i h2 h3 => ?_
          simp only [List.length_map, List.length_range] at h2
          simp [List.getD_eq_getElem?_getD, List.getElem?_eq_getElem h2]
        rw [e]
        simpa using hq
  obtain ⟨base, hbase⟩ : ∃ base, hdV z1 b1 0 X.length X.length = .slice base X.length X.length := by
    cases z1 with
    | true => rw [hz1 rfl]; exact ⟨_, rfl⟩
    | false => exact ⟨_, rfl⟩
  have hf1 := @hfirst z1 b1 0 X.length X
  rw [hbase] at hf1 h0 ⊢
  unfold Builtin.append_
  simp only [List.getElem?_toArray, List.getElem?_cons_zero, List.getElem?_cons_succ, wq_bind, wq_underlying (under?_ok apUnder), wq_sizeOf apSize, wq_pure]
  simp only [Bool.false_eq_true, if_false]
  rw [wq_bind]
  refine hval ?_
  simp only [Bool.not_false, if_true]
  by_cases hp : P = []
  · have e0 : X.length + P.length ≤ X.length := by rw [hp]; exact Nat.le_refl _
    rw [if_pos e0, wq_bind]
    refine hfirst hz hc rfl ?_
    have hst : ∀ {Q' : Unit → World → Prop} {w' : World} (a : Addr), Q' () w' → wq Tryd.prog Ev E (storeCells a ((P.map iV).toArray).toList) Q' w' := fun {Q' w'} a hq => by
      rw [hp]; exact hq
    cases base with
    | none =>
      show Q (.slice none (X.length + P.length) X.length) w
      rw [hp]
      exact h0 hp
    | some a =>
      show wq Tryd.prog Ev E (bind (storeCells (a.add (X.length * 1)) ((P.map iV).toArray).toList) _) Q w
      rw [wq_bind]
      refine hst _ ?_
      show Q (.slice (some a) (X.length + P.length) X.length) w
      rw [hp]
      exact h0 hp
  · have hpos : 0 < P.length := List.length_pos_iff.2 hp
    rw [if_neg (by omega), wq_bind, wq_typeInfo hinfo, if_neg (by rw [hby]; intro hh; exact hh.2.elim id (fun h3 => by omega)), wq_bind, wq_typeInfo hinfo, if_neg (by rw [hby]; exact nextslice_small (by omega) hn (by omega))]
    rw [wq_bind, wq_choose, if_neg (by simp [Question.forced])]
    intro nn
    rw [wq_bind, wq_typeInfo hinfo]
    have ask : ∀ {m : Nat} {Q' : Unit → World → Prop} {w' : World}, Q' () w' → wq Tryd.prog Ev E (askRoom m) Q' w' := by
      intro m Q' w' hq'
      unfold askRoom
      simp only [wq_ite, wq_mark, wq_pure]
      split
      · exact ⟨nr, hq'⟩
      · exact hq'
    rw [wq_bind]
    refine ask ?_
    rw [wq_bind]
    refine hf1 hz1 hc1 rfl ?_
    rw [wq_bind]
    refine hfirst hz hc rfl ?_
    simp only [wq_bind, wq_zeroValue (ρ := (mkE [] [] [])) hzv, newRow, wq_newObj, wq_pure]
    have hcut : X.length + P.length ≤ Question.cut (.appendCap (X.length + P.length) X.length 3) nn := by simp only [Question.cut]; omega
    generalize hcap : Question.cut (.appendCap (X.length + P.length) X.length 3) nn = newCap at hcut
    have hh := h1 hp newCap { w with drawn := w.drawn + 1 } ((X.map iV).toArray ++ (P.map iV).toArray ++ Builtin.zeroCells (zv.ev (mkE [] [] [])).cells (newCap - (X.length + P.length))) (Builtin.zeroCells (zv.ev (mkE [] [] [])).cells (newCap - (X.length + P.length))).toList rfl rfl rfl rfl (by simp) (by
      have e1 : (zv.ev (mkE [] [] [])).cells.size = 1 := by rw [cells?_ev hzc _]; simp [evs_length]
      simp only [Array.size_append, Builtin.zeroCells, Array.size_map, Array.size_range, List.size_toArray, e1, List.length_map]
      simp
      omega)
    rw [List.length_append] at hh
    exact hh
end Go.Proofs.YtojifefdokekpaaDoor
set_option maxRecDepth 100000
set_option linter.unusedVariables false
set_option linter.unusedSimpArgs false
namespace Go.Proofs.YtojifefdokekpaaDoor
open Go.Proofs.YtojifefdokekpaaDoor.SX Go.Conc
def AppOut (w : World) (X P : List Int) (s v : Value) (w' : World) : Prop := (P = [] ∧ v = s) ∨ (P ≠ [] ∧ ∃ c, v = slV w.heap.size 0 (X ++ P).length c ∧ (Blk.vec 3 c ((X ++ P).map iV)).at Tryd.prog w' w.heap.size)
section
variable {w : World} {cs : List Frame} {fr : Frame} {fn nt i d a b : Nat} {ops : Array Oper} {op : Oper} {l : List Nat} {k : List Item} {ds : List Deferred} {kind : CallKind} {lv : List (Nat × Value)}
theorem op_append {z1 z : Bool} {b1 b2 o c : Nat} {X P : List Int} (hf : FA fn nt (.inRegion ops (i :: l) :: k) ds kind lv fr) (ho : ops[i]? = some op) (hop : op.op = .call { callee := .builtin .append, args := #[.tmp a, .tmp b], argTypes := #[22, 22] }) (hty : op.type = 22) (hg : op.guard = none) (hd : op.dst = some d) (hdn : d < nt)
    (m1 : (a, hdV z1 b1 0 X.length X.length) ∈ lv) (m2 : (b, hdV z b2 o P.length c) ∈ lv) (hz1 : z1 = true → X = []) (hc1 : ∀ i n, X[i]? = some n → w.cell? ⟨b1, 0 + i, none⟩ = some (iV n)) (hz : z = true → P = []) (hc : ∀ i n, P[i]? = some n → w.cell? ⟨b2, o + i, none⟩ = some (iV n)) (hn : X.length + P.length ≤ 1048576) :
    Goes (G fr cs) w fun g' w' => ∃ fr' v, g' = G fr' cs ∧ Fresh w w' ∧ AppOut w X P (hdV z1 b1 0 X.length X.length) v w' ∧ FA fn nt (.inRegion ops l :: k) ds kind (lvPut d v lv) fr' := by
  obtain ⟨⟨tm, rfl, h2, h3⟩, h4, h5⟩ := hf
  have hwt : Region.wanted op (yielded ops (⟨tm, ds⟩ : Act).tmps) = true := by unfold Region.wanted; rw [hg]
  have W : wq Tryd.prog (fun _ => True) (fun _ _ => False) (execOp (⟨tm, ds⟩ : Act).eval op) (fun nx w' => ∃ v, nx = .value v ∧ Fresh w w' ∧ AppOut w X P (hdV z1 b1 0 X.length X.length) v w') w := by
    unfold execOp
    simp only [hop, hty, resolve, wq_bind, wq_pure, invoke, builtin]
    rw [show Array.map (⟨tm, ds⟩ : Act).eval #[Operand.tmp a, Operand.tmp b] = #[(⟨tm, ds⟩ : Act).eval (.tmp a), (⟨tm, ds⟩ : Act).eval (.tmp b)] from by simp]
    rw [show (⟨tm, ds⟩ : Act).eval (.tmp a) = _ from h3 _ m1, show (⟨tm, ds⟩ : Act).eval (.tmp b) = _ from h3 _ m2]
    refine wq_app (fun _ => trivial) trivial hz1 hc1 hz hc hn (fun hp => ?_) fun hp cap w0 arr rest e1 e2 e3 e4 e5 e6 => ?_
    · exact ⟨_, rfl, Fresh.refl w, .inl ⟨hp, rfl⟩⟩
    · have hh : ({ w0 with heap := w0.heap.push (.cells arr 3 (0, 0)) } : World).heap = w.heap.push (.cells arr 3 (0, 0)) := by
        show w0.heap.push _ = _
        rw [e1]
      refine ⟨_, rfl, ⟨fun n hn => ?_, by rw [hh, Array.size_push]; omega, e2, e3, e4⟩, .inr ⟨hp, cap, rfl, ?_⟩⟩
      · rw [hh, Array.getElem?_push]
        have hn : ¬ w.heap.size ≤ n := hn
        have : n ≠ w.heap.size := fun e => hn (by omega)
        simp [this]
      · have hinf : ∃ inf, Tryd.prog.info? 3 = some inf ∧ inf.size = 1 := by
          have := apBytes
          cases e : Tryd.prog.info? 3 with
          | none => rw [e] at this; cases this
          | some inf =>
            rw [e] at this
            simp only [Option.map_some, Option.some.injEq, Prod.mk.injEq] at this
            exact ⟨inf, rfl, this.1⟩
        obtain ⟨inf, i1, i2⟩ := hinf
        exact ⟨arr, rest, inf, by rw [hh, Array.getElem?_push]; simp, i1, e5, by rw [e6, i2, Nat.mul_one]⟩
  have q1 : ((execOp (⟨tm, ds⟩ : Act).eval op).run Tryd.prog w).goes (fun nx w' => ∃ v, nx = .value v ∧ Fresh w w' ∧ AppOut w X P (hdV z1 b1 0 X.length X.length) v w') (fun _ _ => False) := (wq_run W).1
  have hgs := stepG_op (P := Tryd.prog) (b := Go.Proofs.YtojifefdokekpaaDoor.SX.mkF fn kind) (k := k) (cs := cs) (w := w) (rest := l) (a := ⟨tm, ds⟩) ho hwt
  cases e : (execOp (⟨tm, ds⟩ : Act).eval op).run Tryd.prog w with
  | halt x w' =>
    rw [e] at q1
    cases x <;> exact q1.elim
  | ok nx w' =>
    rw [e] at q1
    obtain ⟨v, rfl, f1, hA⟩ := q1
    have s : step Tryd.prog (lone ((Go.Proofs.YtojifefdokekpaaDoor.SX.mkF fn kind).at ⟨tm, ds⟩ (.inRegion ops (i :: l) :: k)) cs w) = .next (lone ((Go.Proofs.YtojifefdokekpaaDoor.SX.mkF fn kind).at ((⟨tm, ds⟩ : Act).put ((ops[i]?).bind (·.dst)) v) (.inRegion ops l :: k)) cs w') := by
      refine step_lone_go ?_
      rw [hgs, ← Frame.finish_at]
      simp [stepG.apply, e]
    refine ⟨_, w', .head s (.refl _ _), _, v, rfl, f1, hA, ?_⟩
    rw [ho, Option.bind_some, hd]
    exact put_fa h2 h3 h4 h5 hdn
end
end Go.Proofs.YtojifefdokekpaaDoor
set_option maxRecDepth 100000
set_option linter.unusedVariables false
set_option linter.unusedSimpArgs false
namespace Go.Proofs.YtojifefdokekpaaDoor
open Go.Proofs.YtojifefdokekpaaDoor.SX Go.Conc
noncomputable def rnQ (l : List Nat) : Code := pc (bodyOf Tryd.f10) l
noncomputable def rnO : Array Oper := opsOf (rnQ [1,1,1,0])
noncomputable def rnT (l : List Nat) : List Item := [.inRegion rnO l, .code (rnQ [1,1,1,1])]
noncomputable def rnF (t : List Item) (l : List (Nat × AV)) (st : Nat → Value) : AFrame := ⟨10, 20, tmpsOf 20 st l, t, [], .run, .normal⟩
theorem rnNil (st : Nat → Value) : seeF (runZ [] [] 35 [] (cfg (rnF [.code (bodyOf Tryd.f10)] (rcE 0) st) [] [])) [2] noL = some (⟨10, 20, .code .ret :: [.code (rnQ [1,1,1])], [], .run, .normal, [], [], [nilA]⟩, []) := by kernel_rfl
noncomputable def rnX (k : Nat) : ABlk := .cells [i64 (.lit (Int.ofNat k)), i64 (v 2), .opq 59] 24
theorem rnIn {k : Nat} (h : 1 ≤ k ∧ k < 8) (st : Nat → Value) : seeF (runZ [] [] 37 [100] (cfg (rnF [.code (bodyOf Tryd.f10)] (rcE k) st) [] [])) [1, 7, 9] noL = some (⟨10, 20, rnT [3, 4], [], .run, .normal, [], [(100, rnX k)], [ptr0 100, nilA, .opq 59]⟩, []) := by
  rcases (by omega : k = 1 ∨ k = 2 ∨ k = 3 ∨ k = 4 ∨ k = 5 ∨ k = 6 ∨ k = 7) with rfl | rfl | rfl | rfl | rfl | rfl | rfl <;> kernel_rfl
theorem rnInLow (k : Nat) (st : Nat → Value) : cfgLow 100 (cfg (rnF [.code (bodyOf Tryd.f10)] (rcE k) st) [] []) = true := by kernel_rfl
theorem rnOut {k : Nat} (h : 1 ≤ k ∧ k < 8 ∧ k ≠ 6) (st : Nat → Value) : seeF (runZ [] [(⟨.dyn 61, .lit 0⟩, i64 (.lit (Int.ofNat k)))] 16 [] (cfg (rnF (rnT [4]) [(1, ptr0 61), (10, .opq 62)] st) [] [])) [2] noL = some (⟨10, 20, .code .ret :: [], [], .run, .normal, [], [], [.opq 62]⟩, []) := by
  rcases (by omega : k = 1 ∨ k = 2 ∨ k = 3 ∨ k = 4 ∨ k = 5 ∨ k = 7) with rfl | rfl | rfl | rfl | rfl | rfl <;> kernel_rfl
theorem rnOutLow (st : Nat → Value) : cfgLow 100 (cfg (rnF (rnT [4]) [(1, ptr0 61), (10, .opq 62)] st) [] []) = true := by kernel_rfl
noncomputable def rnM6 : List (AA × AV) := [(⟨.dyn 61, .lit 0⟩, i64 (.lit 6)), (⟨.dyn 61, .lit 1⟩, i64 (v 2))]
theorem rnSix (z : Bool) (st : Nat → Value) : seeF (runZ (apBs z) rnM6 23 [101] (cfg (rnF (rnT [4]) [(1, ptr0 61), (10, sliZ z)] st) [] (preZ z))) [2] noL = some (⟨10, 20, .code .ret :: [], [], .run, .normal, [], [(101, apZ z 101)], [apV z 101]⟩, []) := by cases z <;> kernel_rfl
theorem rnSixLow (z : Bool) (st : Nat → Value) : cfgLow 100 (cfg (rnF (rnT [4]) [(1, ptr0 61), (10, sliZ z)] st) [] (preZ z)) = true := by cases z <;> kernel_rfl
theorem rnSome : (rnO[3]?).isSome = true := by kernel_rfl
noncomputable def rnOp : Oper := (rnO[3]?).get rnSome
theorem rnIs : rnO[3]? = some rnOp := (Option.some_get _).symm
theorem rnDo : rnOp.op = .call { callee := .builtin .append, args := #[.tmp 7, .tmp 9], argTypes := #[22, 22] } := by kernel_rfl
theorem rnG : rnOp.guard = none := by kernel_rfl
theorem rnD : rnOp.dst = some 10 := by kernel_rfl
theorem rnTy : rnOp.type = 22 := by kernel_rfl
theorem ent10 : enterA Tryd.prog 10 [.opq 0] .normal = .ok ⟨10, 20, entT 10 [.opq 0], [.code (bodyOf Tryd.f10)], [], .run, .normal⟩ := by kernel_rfl
section
variable {w : World} {cs : List Frame} {fr : Frame} {e s : Value} {k : Nat} {n : Int} {l : List Int}
theorem rn_six {w0 : World} {X : Nat} {u : Value} (fw : Fresh w0 w) (hX : w.cell? ⟨X, 0, none⟩ = some (iV 6)) (hX1 : w.cell? ⟨X, 1, none⟩ = some (iV n)) (hu : NumOut w0 u l w) (hne : ∀ B c m, u = slV B 0 m c → B ≠ X) (hl : l.length ≤ 1000000) (hf : FA 10 20 (rnT [4]) [] .normal [(1, ptrV X), (10, u)] fr) :
    Goes (G fr cs) w fun g' w' => ∃ fr' v, g' = G fr' cs ∧ Fresh w0 w' ∧ NumOut w0 v (l ++ [n]) w' ∧ Leav 10 fr' w' v := by
  obtain ⟨z, B, c, hs, hz, hb⟩ : ∃ (z : Bool) (B c : Nat), u = (match z with | true => nilV | false => slV B 0 l.length c) ∧ (z = true → l = []) ∧ (z = false → w0.heap.size ≤ B ∧ (Blk.vec 3 c (l.map iV)).at Tryd.prog w B) := by
    rcases hu with ⟨h1, h2⟩ | ⟨h1, B, c, h2, h3, h4⟩
    · exact ⟨true, 0, 0, h1, fun _ => h2, fun h => by cases h⟩
    · exact ⟨false, B, c, h2, fun h => (by cases h), fun _ => ⟨h3, h4⟩⟩
  obtain ⟨ρ, hρ⟩ : ∃ ρ : Env, ρ = mkE [(2, n), (8, l.length), (57, c)] [(61, X), (52, B)] [(63, .agg (l.map iV).toArray)] := ⟨_, rfl⟩
  have hTlt : ∀ q : Nat × ABlk, q ∈ preZ z → q = (52, .pre false 63 (v 8) [] [] [] 3 (v 57)) ∧ z = false := fun q hq => by
    cases z with
    | true => cases hq
    | false => exact ⟨List.mem_singleton.1 hq, rfl⟩
  refine (pieceW (ρ := ρ) (preZ z) [(101, apZ z 101)] (rnSix z (stOf fr)) rfl rfl (rnSixLow z _) (by cases z <;> kernel_rfl) (hf.rel (.inl rfl) [(1, ptr0 61), (10, sliZ z)] (by rw [hs, hρ]; cases z <;> rfl) rfl) (fun q hq => ?_) (fun q hq => ?_) (fun q hq => ?_) (by cases z <;> simp [preZ]) one_nodup).trans fun g' w' hd => ?_
  · cases z with
    | true => cases hq
    | false =>
      obtain rfl := List.mem_singleton.1 hq
      rw [hρ]
      show decide ((((l.length : Int).toNat : Nat) : Int) + 1 ≤ 1048576) = true
      exact decide_eq_true (by omega)
  · have hne' : ∀ y ∈ preZ z, ρ.b y.1 ≠ X := fun y hy => by
      obtain ⟨rfl, rfl⟩ := hTlt y hy
      have e52 : ρ.b 52 = B := by rw [hρ]; rfl
      show ρ.b 52 ≠ X
      rw [e52]
      exact hne B c l.length hs
    simp only [rnM6, List.mem_cons, List.not_mem_nil, or_false] at hq
    rcases hq with rfl | rfl
    · exact ⟨by rw [hρ]; exact hX, fun y hy => by have := hne' y hy; rw [hρ] at this ⊢; exact this⟩
    · exact ⟨by rw [hρ]; exact hX1, fun y hy => by have := hne' y hy; rw [hρ] at this ⊢; exact this⟩
  · obtain ⟨rfl, rfl⟩ := hTlt q hq
    refine ⟨.vec 3 c (l.map iV), ?_, rfl, ?_, fun inf hinf => ?_, (fun q hq => by cases hq), ?_⟩
    · rw [hρ]; exact (hb rfl).2
    · rw [hρ]; rfl
    · rw [size3 inf hinf, List.length_map, hρ]
      show l.length = ((l.length : Nat) : Int).toNat * 1
      omega
    · rw [hρ]; rfl
  · obtain ⟨ρ', fr', rfl, kp, Ag, f1, bl⟩ := hd
    obtain ⟨hown, hblk⟩ := bl (101, apZ z 101) (List.mem_singleton.2 rfl)
    have i2 : ρ'.i 2 = n := (Ag.i 2 (by decide)).trans (by rw [hρ]; rfl)
    have i8 : ρ'.i 8 = l.length := (Ag.i 8 (by decide)).trans (by rw [hρ]; rfl)
    have v63 : ρ'.v 63 = .agg (l.map iV).toArray := (congrFun Ag.v 63).trans (by rw [hρ]; rfl)
    have hlow : ∀ q, ownP ρ w (preZ z) q → w0.heap.size ≤ q := fun q hq => by
      rcases hq with hq | ⟨y, hy, e⟩
      · exact Nat.le_trans fw.size hq
      · obtain ⟨rfl, rfl⟩ := hTlt y hy
        have := (hb rfl).1
        have e52 : ρ.b 52 = B := by rw [hρ]; rfl
        have e : ρ.b 52 = q := e
        omega
    have hbv : blkOf ρ' (apZ z 101) = .vec 3 (ρ'.i 101).toNat ((l ++ [n]).map iV) := by
      rw [List.map_append]
      cases z with
      | true =>
        rw [hz rfl]
        show Blk.vec 3 (ρ'.i 101).toNat [iV (ρ'.i 2)] = _
        rw [i2]; rfl
      | false =>
        show Blk.vec 3 (ρ'.i 101).toNat (listV (ρ'.v 63) ++ [iV (ρ'.i 2)]) = _
        rw [v63, i2]; rfl
    have hsv : (apV z 101).ev ρ' = slV (ρ'.b 101) 0 (l ++ [n]).length (ρ'.i 101).toNat := by
      rw [List.length_append, List.length_singleton]
      cases z with
      | true => rw [hz rfl]; rfl
      | false =>
        show Value.slice (some ⟨ρ'.b 101, 0, none⟩) ((((ρ'.i 8).toNat : Nat) : Int) + 1).toNat (ρ'.i 101).toNat = _
        rw [i8]
        show Value.slice _ ((((l.length : Int).toNat : Nat) : Int) + 1).toNat _ = _
        rw [show ((((l.length : Int).toNat : Nat) : Int) + 1).toNat = l.length + 1 from by omega]
        rfl
    have hblk : (blkOf ρ' (apZ z 101)).at Tryd.prog w' (ρ'.b 101) := hblk
    rw [hbv] at hblk
    refine (leave_tmp (x := (apV z 101).ev ρ') (fun st => by kernel_rfl) f1 (List.mem_singleton.2 rfl)).mono fun g4 w4 hd4 => ?_
    obtain ⟨fr4, rfl, rfl, hL⟩ := hd4
    refine ⟨fr4, _, rfl, Keeps.trans fw (kp.mono hlow), .inr ⟨by simp, _, _, rfl, hlow _ hown, hblk⟩, ?_⟩
    rw [← hsv]
    exact hL
theorem refNumbers_all (hk : k < 8) (h0 : k = 0 → l = []) (h : NumsAt w s l) (hl : l.length ≤ 999999) : Ans 10 #[errV k n s] w fun v w' => Fresh w w' ∧ NumOut w v (numsOf l k n) w' := by
  by_cases hk0 : k = 0
  · subst hk0
    refine (ansP (ρ := mkE [(2, n)] [] [(59, s)]) (lA := rcE 0) (enter1 ent10 rfl (errV 0 n s)) rfl rnNil (fun st => by kernel_rfl) (by kernel_rfl) (fun st => by kernel_rfl) (fun p hp => by cases hp) (fun p hp => by cases hp) List.nodup_nil).mono fun v w' hd => ?_
    obtain ⟨f1, ρ', Ag, rfl, _⟩ := hd
    exact ⟨f1, .inl ⟨rfl, by rw [numsOf, h0 rfl]; rfl⟩⟩
  · refine ans_of fun cs => ?_
    refine (pieceF (ρ := mkE [(2, n)] [] [(59, s)]) (rnIn ⟨by omega, hk⟩ (stOf _)) rfl rfl (rnInLow k _) (by kernel_rfl) ((enter1 ent10 rfl (errV k n s)).rel (.inl rfl) (rcE k) rfl rfl) (fun q hq => by cases hq) (fun q hq => by cases hq) one_nodup).trans fun g1 w1 hd => ?_
    obtain ⟨ρ', fr1, rfl, f1, Ag, F1, bl⟩ := hd
    have v59 : ρ'.v 59 = s := congrFun Ag.v 59
    have i2 : ρ'.i 2 = n := Ag.i 2 (by decide)
    obtain ⟨hge, hX⟩ := bl (100, rnX k) (List.mem_singleton.2 rfl)
    have hge : w.heap.size ≤ ρ'.b 100 := hge
    have hX : (Blk.obj 24 [iV k, iV (ρ'.i 2), ρ'.v 59]).at Tryd.prog w1 (ρ'.b 100) := hX
    rw [i2] at hX
    obtain ⟨z, A, o, c, rfl, hz, _, hel⟩ := nums_form h
    have F1' : FA 10 20 (rnT [3, 4]) [] .normal [(1, ptrV (ρ'.b 100)), (7, hdV true 0 0 0 0), (9, hdV z A o l.length c)] fr1 := by rw [← v59]; exact F1
    refine (op_append (X := []) (P := l) (z1 := true) (b1 := 0) F1' rnIs rnDo rnTy rnG rnD (by decide) (List.mem_of_getElem? (i := 1) rfl) (List.mem_of_getElem? (i := 2) rfl) (fun _ => rfl) (fun i n hi => by cases hi) hz (fun i n hi => f1.cell (hel i n hi)) (by simp only [List.length_nil]; omega)).trans fun g2 w2 hd2 => ?_
    obtain ⟨fr2, u, rfl, f2, hA, F2⟩ := hd2
    have hu : NumOut w u l w2 := by
      rcases hA with ⟨h1, h2⟩ | ⟨h1, c', h2, h3⟩
      · exact .inl ⟨h2, h1⟩
      · exact .inr ⟨h1, _, c', h2, f1.size, h3⟩
    have hneX : ∀ B c m, u = slV B 0 m c → B ≠ ρ'.b 100 := fun B c m e => by
      have hlt : ρ'.b 100 < w1.heap.size := Blk.at_lt hX
      rcases hA with ⟨h1, h2⟩ | ⟨h1, c', h2, h3⟩
      · rw [h2] at e; cases e
      · rw [h2] at e
        cases e
        omega
    have F2' : FA 10 20 (rnT [4]) [] .normal [(1, ptrV (ρ'.b 100)), (10, u)] fr2 := F2.sub fun q hq => by
      simp only [List.mem_cons, List.not_mem_nil, or_false] at hq
      rcases hq with rfl | rfl
      · exact List.mem_cons_of_mem _ (List.mem_filter.2 ⟨List.mem_cons_self .., rfl⟩)
      · exact List.mem_cons_self ..
    have c0 : w2.cell? ⟨ρ'.b 100, 0, none⟩ = some (iV k) := f2.cell (blk_cell hX rfl)
    have c1 : w2.cell? ⟨ρ'.b 100, 1, none⟩ = some (iV n) := f2.cell (blk_cell hX rfl)
    by_cases hk6 : k = 6
    · subst hk6
      refine (rn_six (f1.trans f2) c0 c1 hu hneX (by omega) F2').mono fun g3 w3 hd3 => ?_
      obtain ⟨fr3, vv, rfl, f3, ho, hL⟩ := hd3
      exact ⟨fr3, vv, rfl, hL, f3, ho⟩
    · refine (pieceF (ρ := mkE [] [(61, ρ'.b 100)] [(62, u)]) (rnOut ⟨by omega, hk, hk6⟩ (stOf fr2)) rfl rfl (rnOutLow _) (by kernel_rfl) (F2'.rel (.inl rfl) [(1, ptr0 61), (10, .opq 62)] rfl rfl) (fun q hq => by cases hq) (fun q hq => by
        obtain rfl := List.mem_singleton.1 hq
        exact c0) List.nodup_nil).trans fun g3 w3 hd3 => ?_
      obtain ⟨ρ3, fr3, rfl, f3, Ag3, F3, _⟩ := hd3
      have v62 : ρ3.v 62 = u := congrFun Ag3.v 62
      refine (leave_tmp (x := ρ3.v 62) (fun st => by kernel_rfl) F3 (List.mem_singleton.2 rfl)).mono fun g4 w4 hd4 => ?_
      obtain ⟨fr4, rfl, rfl, hL⟩ := hd4
      refine ⟨fr4, _, rfl, hL, (f1.trans f2).trans f3, ?_⟩
      rw [v62, numsOf, if_neg hk6, List.append_nil]
      exact hu.keep f3
end
end Go.Proofs.YtojifefdokekpaaDoor
set_option maxRecDepth 100000
set_option linter.unusedVariables false
set_option linter.unusedSimpArgs false
namespace Go.Proofs.YtojifefdokekpaaDoor
open Go.Proofs.YtojifefdokekpaaDoor.SX Go.Conc Go.Proofs Go.Shelf
def Tryd.lays171_ren : Go.Shelf.Ren := ⟨fun | 171 => 28 | 243 => 37 | 246 => 46 | 283 => 47 | 284 => 48 | 285 => 49 | 286 => 50 | 129 => 52 | 317 => 51 | 318 => 53 | 319 => 54 | 320 => 55 | 337 => 56 | 338 => 57 | n => n, fun | 3 => 3 | 9 => 9 | 2 => 2 | 4 => 4 | 171 => 99 | 0 => 0 | 53 => 100 | 37 => 103 | 5 => 5 | 173 => 104 | 212 => 108 | 51 => 109 | 20 => 20 | 213 => 110 | 46 => 112 | 232 => 115 | 233 => 116 | n => n, fun | 17 => 2 | 18 => 3 | 19 => 4 | n => n⟩
theorem Tryd.lays171 : Go.Proofs.LaysM.n171 Tryd.prog Tryd.lays171_ren := {
  mixed := by kernel_rfl,
  f129 := Tryd.func52.trans (congrArg some (by kernel_rfl)),
  f171 := Tryd.func28.trans (congrArg some (by kernel_rfl)),
  f243 := Tryd.func37.trans (congrArg some (by kernel_rfl)),
  f246 := Tryd.func46.trans (congrArg some (by kernel_rfl)),
  f283 := Tryd.func47.trans (congrArg some (by kernel_rfl)),
  f284 := Tryd.func48.trans (congrArg some (by kernel_rfl)),
  f285 := Tryd.func49.trans (congrArg some (by kernel_rfl)),
  f286 := Tryd.func50.trans (congrArg some (by kernel_rfl)),
  f317 := Tryd.func51.trans (congrArg some (by kernel_rfl)),
  f318 := Tryd.func53.trans (congrArg some (by kernel_rfl)),
  f319 := Tryd.func54.trans (congrArg some (by kernel_rfl)),
  f320 := Tryd.func55.trans (congrArg some (by kernel_rfl)),
  f337 := Tryd.func56.trans (congrArg some (by kernel_rfl)),
  f338 := Tryd.func57.trans (congrArg some (by kernel_rfl)),
  t0 := Tryd.underlying0,
  a0 := Tryd.isAgg0,
  z0 := Tryd.sizeOf0,
  v0 := Tryd.zeroValue0,
  t2 := Tryd.underlying2,
  a2 := Tryd.isAgg2,
  z2 := Tryd.sizeOf2,
  v2 := Tryd.zeroValue2,
  t3 := Tryd.underlying3,
  a3 := Tryd.isAgg3,
  z3 := Tryd.sizeOf3,
  v3 := Tryd.zeroValue3,
  t4 := Tryd.underlying4,
  a4 := Tryd.isAgg4,
  z4 := Tryd.sizeOf4,
  v4 := Tryd.zeroValue4,
  t5 := Tryd.underlying5,
  a5 := Tryd.isAgg5,
  z5 := Tryd.sizeOf5,
  v5 := Tryd.zeroValue5,
  t9 := Tryd.underlying9,
  a9 := Tryd.isAgg9,
  z9 := Tryd.sizeOf9,
  v9 := Tryd.zeroValue9,
  t20 := Tryd.underlying20,
  a20 := Tryd.isAgg20,
  z20 := Tryd.sizeOf20,
  v20 := Tryd.zeroValue20,
  t37 := Tryd.underlying103,
  a37 := Tryd.isAgg103,
  z37 := Tryd.sizeOf103,
  v37 := Tryd.zeroValue103,
  t46 := Tryd.underlying112,
  a46 := Tryd.isAgg112,
  z46 := Tryd.sizeOf112,
  v46 := Tryd.zeroValue112,
  t51 := Tryd.underlying109,
  a51 := Tryd.isAgg109,
  z51 := Tryd.sizeOf109,
  v51 := Tryd.zeroValue109,
  t53 := Tryd.underlying100,
  a53 := Tryd.isAgg100,
  z53 := Tryd.sizeOf100,
  v53 := Tryd.zeroValue100,
  t171 := Tryd.underlying99,
  a171 := Tryd.isAgg99,
  z171 := Tryd.sizeOf99,
  v171 := Tryd.zeroValue99,
  t173 := Tryd.underlying104,
  a173 := Tryd.isAgg104,
  z173 := Tryd.sizeOf104,
  v173 := Tryd.zeroValue104,
  t212 := Tryd.underlying108,
  a212 := Tryd.isAgg108,
  z212 := Tryd.sizeOf108,
  v212 := Tryd.zeroValue108,
  t213 := Tryd.underlying110,
  a213 := Tryd.isAgg110,
  z213 := Tryd.sizeOf110,
  t232 := Tryd.underlying115,
  a232 := Tryd.isAgg115,
  z232 := Tryd.sizeOf115,
  v232 := Tryd.zeroValue115,
  t233 := Tryd.underlying116,
  a233 := Tryd.isAgg116,
  z233 := Tryd.sizeOf116,
  v233 := Tryd.zeroValue116,
  g17 := by kernel_rfl,
  g18 := by kernel_rfl,
  g19 := by kernel_rfl,
  i0 := by kernel_rfl,
  i2 := by kernel_rfl,
  i3 := by kernel_rfl,
  i4 := by kernel_rfl,
  i5 := by kernel_rfl,
  i9 := by kernel_rfl,
  i20 := by kernel_rfl,
  i37 := by kernel_rfl,
  i46 := by kernel_rfl,
  i51 := by kernel_rfl,
  i53 := by kernel_rfl,
  i171 := by kernel_rfl,
  i173 := by kernel_rfl,
  i212 := by kernel_rfl,
  i232 := by kernel_rfl,
  i233 := by kernel_rfl,
  m17 := by kernel_rfl,
  m18 := by kernel_rfl,
  m19 := by kernel_rfl }
def Tryd.lays173_ren : Go.Shelf.Ren := ⟨fun | 173 => 38 | 246 => 46 | 283 => 47 | 284 => 48 | 285 => 49 | 286 => 50 | 129 => 52 | 317 => 51 | 318 => 53 | 319 => 54 | 320 => 55 | 337 => 56 | 338 => 57 | n => n, fun | 2 => 2 | 3 => 3 | 9 => 9 | 4 => 4 | 171 => 99 | 0 => 0 | 53 => 100 | 37 => 103 | 5 => 5 | 173 => 104 | 212 => 108 | 51 => 109 | 20 => 20 | 213 => 110 | 46 => 112 | 232 => 115 | 233 => 116 | n => n, fun | 17 => 2 | 18 => 3 | 19 => 4 | n => n⟩
theorem Tryd.lays173 : Go.Proofs.LaysM.n173 Tryd.prog Tryd.lays173_ren := {
  mixed := by kernel_rfl,
  f129 := Tryd.func52.trans (congrArg some (by kernel_rfl)),
  f173 := Tryd.func38.trans (congrArg some (by kernel_rfl)),
  f246 := Tryd.func46.trans (congrArg some (by kernel_rfl)),
  f283 := Tryd.func47.trans (congrArg some (by kernel_rfl)),
  f284 := Tryd.func48.trans (congrArg some (by kernel_rfl)),
  f285 := Tryd.func49.trans (congrArg some (by kernel_rfl)),
  f286 := Tryd.func50.trans (congrArg some (by kernel_rfl)),
  f317 := Tryd.func51.trans (congrArg some (by kernel_rfl)),
  f318 := Tryd.func53.trans (congrArg some (by kernel_rfl)),
  f319 := Tryd.func54.trans (congrArg some (by kernel_rfl)),
  f320 := Tryd.func55.trans (congrArg some (by kernel_rfl)),
  f337 := Tryd.func56.trans (congrArg some (by kernel_rfl)),
  f338 := Tryd.func57.trans (congrArg some (by kernel_rfl)),
  t0 := Tryd.underlying0,
  a0 := Tryd.isAgg0,
  z0 := Tryd.sizeOf0,
  v0 := Tryd.zeroValue0,
  t2 := Tryd.underlying2,
  a2 := Tryd.isAgg2,
  z2 := Tryd.sizeOf2,
  v2 := Tryd.zeroValue2,
  t3 := Tryd.underlying3,
  a3 := Tryd.isAgg3,
  z3 := Tryd.sizeOf3,
  v3 := Tryd.zeroValue3,
  t4 := Tryd.underlying4,
  a4 := Tryd.isAgg4,
  z4 := Tryd.sizeOf4,
  v4 := Tryd.zeroValue4,
  t5 := Tryd.underlying5,
  a5 := Tryd.isAgg5,
  z5 := Tryd.sizeOf5,
  v5 := Tryd.zeroValue5,
  t9 := Tryd.underlying9,
  a9 := Tryd.isAgg9,
  z9 := Tryd.sizeOf9,
  v9 := Tryd.zeroValue9,
  t20 := Tryd.underlying20,
  a20 := Tryd.isAgg20,
  z20 := Tryd.sizeOf20,
  v20 := Tryd.zeroValue20,
  t37 := Tryd.underlying103,
  a37 := Tryd.isAgg103,
  z37 := Tryd.sizeOf103,
  v37 := Tryd.zeroValue103,
  t46 := Tryd.underlying112,
  a46 := Tryd.isAgg112,
  z46 := Tryd.sizeOf112,
  v46 := Tryd.zeroValue112,
  t51 := Tryd.underlying109,
  a51 := Tryd.isAgg109,
  z51 := Tryd.sizeOf109,
  v51 := Tryd.zeroValue109,
  t53 := Tryd.underlying100,
  a53 := Tryd.isAgg100,
  z53 := Tryd.sizeOf100,
  v53 := Tryd.zeroValue100,
  t171 := Tryd.underlying99,
  a171 := Tryd.isAgg99,
  z171 := Tryd.sizeOf99,
  v171 := Tryd.zeroValue99,
  t173 := Tryd.underlying104,
  a173 := Tryd.isAgg104,
  z173 := Tryd.sizeOf104,
  v173 := Tryd.zeroValue104,
  t212 := Tryd.underlying108,
  a212 := Tryd.isAgg108,
  z212 := Tryd.sizeOf108,
  v212 := Tryd.zeroValue108,
  t213 := Tryd.underlying110,
  a213 := Tryd.isAgg110,
  z213 := Tryd.sizeOf110,
  t232 := Tryd.underlying115,
  a232 := Tryd.isAgg115,
  z232 := Tryd.sizeOf115,
  v232 := Tryd.zeroValue115,
  t233 := Tryd.underlying116,
  a233 := Tryd.isAgg116,
  z233 := Tryd.sizeOf116,
  v233 := Tryd.zeroValue116,
  g17 := by kernel_rfl,
  g18 := by kernel_rfl,
  g19 := by kernel_rfl,
  i0 := by kernel_rfl,
  i2 := by kernel_rfl,
  i3 := by kernel_rfl,
  i4 := by kernel_rfl,
  i5 := by kernel_rfl,
  i9 := by kernel_rfl,
  i20 := by kernel_rfl,
  i37 := by kernel_rfl,
  i46 := by kernel_rfl,
  i51 := by kernel_rfl,
  i53 := by kernel_rfl,
  i171 := by kernel_rfl,
  i173 := by kernel_rfl,
  i212 := by kernel_rfl,
  i232 := by kernel_rfl,
  i233 := by kernel_rfl,
  m17 := by kernel_rfl,
  m18 := by kernel_rfl,
  m19 := by kernel_rfl }
def TabAt (w : World) : Prop := Lib.TabIs Tryd.prog w "internal/strconv.uint64pow10" .u64 Lib.pow10Tab
theorem TabAt.keep {w w' : World} (h : TabAt w) (f : Fresh w w') : TabAt w' := by
  unfold TabAt Lib.TabIs World.var? at h ⊢
  cases hg : Tryd.prog.globalNamed "internal/strconv.uint64pow10" with
  | none => rw [hg] at h; cases h
  | some g =>
    rw [hg] at h
    simp only [Option.bind_some] at h ⊢
    cases hh : w.heap[g]? with
    | none => rw [hh] at h; cases h
    | some o =>
      have hlt : g < w.heap.size := heap_lt hh
      rw [f.heap g (Nat.not_le.2 hlt), hh]
      rw [hh] at h
      exact h
theorem grow_fresh {w : World} {k : Nat} {os : Array Obj} : Fresh w («Sort».grow (w.drewN k) os) := by
  refine ⟨fun n hn => ?_, ?_, rfl, rfl, rfl⟩
  · have hn : ¬ w.heap.size ≤ n := hn
    show (w.heap ++ os)[n]? = w.heap[n]?
    rw [Array.getElem?_append_left (by omega)]
  · show w.heap.size ≤ (w.heap ++ os).size
    rw [Array.size_append]
    omega
def I64 (n : Int) : Prop := -9223372036854775808 ≤ n ∧ n ≤ 9223372036854775807
def tV (l : List UInt8) : Value := .string ⟨l.toArray⟩
theorem itoa_all {n : Int} (hn : I64 n) {w : World} (ht : TabAt w) : Ans 28 #[iV n] w fun v w' => Fresh w w' ∧ v = tV (Lib.itoa n) := by
  refine Calls.mono (Any.strconv_Itoa Tryd.lays171 n hn.1 hn.2 w ht) fun e w' hd => ?_
  obtain ⟨rfl, k, os, rfl⟩ := hd
  exact ⟨_, rfl, grow_fresh, rfl⟩
theorem fmt_all {n : Int} (hn : I64 n) {w : World} (ht : TabAt w) : Ans 38 #[iV n, iV 10] w fun v w' => Fresh w w' ∧ v = tV (Lib.itoa n) := by
  refine Calls.mono (Any.strconv_FormatInt_10 Tryd.lays173 n hn.1 hn.2 w ht) fun e w' hd => ?_
  obtain ⟨rfl, k, os, rfl⟩ := hd
  exact ⟨_, rfl, grow_fresh, rfl⟩
end Go.Proofs.YtojifefdokekpaaDoor
