/-
  LimitOrder's setup: one timer after the other. Conditions: none.
-/
import Derived.Test.YtmnahfonnljobaaGreatDoorSxLOe
set_option maxRecDepth 100000
set_option linter.unusedVariables false
set_option linter.unusedSimpArgs false
namespace Go.Proofs.YtmnahfonnljobaaGreatDoor
open Go.Proofs.YtmnahfonnljobaaGreatDoor.SX Go.Conc

def slV (a o n c : Nat) : Value := .slice (some ⟨a, o, none⟩) n c
def nilV : Value := .slice none 0 0
/-- What the law is handed. -/
structure Dat where
  hl : Value
  hs : Value
  A : Nat
  o : Nat
  n : Nat
  c : Nat
  SA : Nat
  so : Nat
  ns : Nat
  sc : Nat
  D : Nat → Int
  Fl : Nat → Int
  sp : Nat → Int
structure Dat.Ok (d : Dat) (base : Nat) (W0 : World) : Prop where
  l : d.hl = slV d.A d.o d.n d.c ∨ (d.n = 0 ∧ d.hl = nilV)
  s : d.hs = slV d.SA d.so d.ns d.sc ∨ (d.ns = 0 ∧ d.hs = nilV)
  n : d.n ≤ 16
  ns : d.ns ≤ 30
  D : ∀ i, i < d.n → OldAt base W0 d.A (d.o + i * 2) (iV (d.D i))
  F : ∀ i, i < d.n → OldAt base W0 d.A (d.o + i * 2 + 1) (iV (d.Fl i))
  sp : ∀ i, i < d.ns → OldAt base W0 d.SA (d.so + i) (iV (d.sp i))
noncomputable def mE (d : Dat) (C : Nat) (f g e : Value) (is : List (Nat × Int)) (bs : List (Nat × Nat)) (vs : List (Nat × Value)) : Env := mkE (is ++ [(51, (d.n : Int)), (52, (d.c : Int)), (53, (d.o : Int)), (54, (d.ns : Int)), (55, (d.sc : Int)), (56, (d.so : Int))]) (bs ++ [(50, d.A), (51, d.SA), (10, C)]) (vs ++ [(30, d.hl), (31, d.hs), (36, f), (37, g), (44, e)])
def mVB (d : Dat) (C : Nat) (f g : Value) : List (Nat × Value) := [(0, d.hl), (1, d.hs), (4, .bool false), (5, ptrV C), (6, f), (7, g)]
def mVC (d : Dat) (C : Nat) (f g e : Value) (now s : Int) : List (Nat × Value) := [(0, d.hl), (1, d.hs), (4, .bool false), (5, ptrV C), (6, f), (7, g), (13, iV now), (14, e), (15, iV s)]
theorem Dat.Ok.sl {d : Dat} {base : Nat} {W0 : World} (ok : d.Ok base W0) {i : Nat} (h : i < d.n) : d.hl = slV d.A d.o d.n d.c := by
  rcases ok.l with h' | ⟨h', _⟩
  · exact h'
  · omega
theorem Dat.Ok.ss {d : Dat} {base : Nat} {W0 : World} (ok : d.Ok base W0) {i : Nat} (h : i < d.ns) : d.hs = slV d.SA d.so d.ns d.sc := by
  rcases ok.s with h' | ⟨h', _⟩
  · exact h'
  · omega
/-! ### addresses, tests -/
theorem el_ev {ρ : Env} {b o i k O I : Nat} (ho : ρ.i o = (O : Int)) (hi : ρ.i i = (I : Int)) (hk : k < 2) : (elA b o i k).ev ρ = ⟨ρ.b b, O + I * 2 + k, none⟩ := by
  have e0 : (IE.plus (.tn (v o)) (.times (.tn (v i)) (.lit 2))).ev ρ = ((O + I * 2 : Nat) : Int) := by
    simp only [IE.ev, v, ho, hi]
    omega
  have e1 : (addN (.plus (.tn (v o)) (.times (.tn (v i)) (.lit 2))) k).ev ρ = ((O + I * 2 + k : Nat) : Int) := by
    unfold addN
    dsimp only
    split
    · rename_i hk0
      subst hk0
      exact e0
    · show ((((IE.plus (.tn (v o)) (.times (.tn (v i)) (.lit 2))).ev ρ).toNat : Nat) : Int) + (k : Int) = _
      rw [e0]
      omega
  show (⟨ρ.b b, ((addN (.plus (.tn (v o)) (.times (.tn (v i)) (.lit 2))) k).ev ρ).toNat, none⟩ : Addr) = _
  rw [e1]
  rfl
theorem at1_ev {ρ : Env} {b i I : Nat} (hi : ρ.i i = (I : Int)) : (at1 b i).ev ρ = ⟨ρ.b b, I, none⟩ := by
  show (⟨ρ.b b, (((ρ.i i).toNat : Nat) : Int).toNat, none⟩ : Addr) = _
  rw [hi]
  rfl
theorem brk_ev {ρ : Env} {b o i O I : Nat} (ho : ρ.i o = (O : Int)) (hi : ρ.i i = (I : Int)) : (brk b o i).ev ρ = ⟨ρ.b b, O + I, none⟩ := by
  show (⟨ρ.b b, ((((ρ.i o).toNat : Nat) : Int) + (((ρ.i i).toNat : Nat) : Int)).toNat, none⟩ : Addr) = _
  rw [ho, hi]
  rfl
theorem ltB_ok {ρ : Env} {i n I N : Nat} (hi : ρ.i i = (I : Int)) (hn : ρ.i n = (N : Int)) (h : I < N) : ∀ p ∈ ltB i n, p.1.ev ρ = p.2 := by
  intro p hp
  simp only [ltB, List.mem_cons, List.not_mem_nil, or_false] at hp
  rcases hp with rfl | rfl | rfl | rfl
  · show decide (ρ.i i < (((ρ.i n).toNat : Nat) : Int)) = true
    rw [hi, hn]; exact decide_eq_true (by omega)
  · show decide ((0 : Int) ≤ ρ.i i) = true
    rw [hi]; exact decide_eq_true (by omega)
  · show decide (ρ.i i < 0) = false
    rw [hi]; exact decide_eq_false (by omega)
  · show decide (ρ.i i ≥ (((ρ.i n).toNat : Nat) : Int)) = false
    rw [hi, hn]; exact decide_eq_false (by omega)
theorem old_ev {base : Nat} {W0 : World} {ρ : Env} {a : AA} {x : AV} {A n : Nat} {y : Value} {L : Lay} {dr : List Role} (h : OldAt base W0 A n y) (ea : a.ev ρ = ⟨A, n, none⟩) (ex : x.ev ρ = y) : MemO L dr base W0 ρ (a, x) := .inr ⟨by rw [ea]; exact h.1, by rw [ea, ex]; exact h.2⟩

section
variable {base : Nat} {W0 w : World} {L : Lay} {cs : List Frame} {fr frM : Frame} {d : Dat} {C i : Nat} {f g : Value} {K : CK} {T : Nat → TM}
abbrev F6 (t : List Item) (lv : List (Nat × Value)) (fr : Frame) : Prop := FA 6 208 t [] .normal lv fr
abbrev SuAt (d : Dat) (C : Nat) (f g : Value) (i : Int) (fr : Frame) : Prop := F6 suT (mVB d C f g ++ [(8, iV i)]) fr
abbrev AtIn (z : Bool) (x : Int) (fr : Frame) : Prop := FA 33 14 [.code (bodyOf Tryz.f33)] [] .normal [(0, iV x), (1, iV (Bool.rec 20 40 z))] fr
abbrev AtRet (x : Int) (fr : Frame) : Prop := FA 33 14 [.code .ret] [] .normal [(4, iV x)] fr
def m1000 (x : Int) : Int := iop .rem .i64 x 1000
theorem su_in (ok : d.Ok base W0) (hi : i < d.n) (o : On base W0 L w) (hf : SuAt d C f g i fr) :
    Go1 base (G fr cs) w fun g' w' => ∃ fr' frM, g' = G fr' (frM :: cs) ∧ On base W0 L w' ∧ AtIn true (m1000 (d.D i)) fr' ∧ F6 (suM [0] [6, 7] [1]) (mVB d C f g ++ [(8, iV i)]) frM := by
  have hl := ok.sl hi
  let ρ : Env := mE d C f g .nilIface [(8, i), (60, d.D i)] [] []
  refine Walk.weaken (fun g' w' hd => ?_) (walkZ (frs := []) (callers := []) (cs := cs) o [] [] (suIn (stOf fr)) rfl rfl (by kernel_rfl) (by kernel_rfl) (ρ := ρ) (hf.rel (.inl rfl) (mB sl5 o1 o6 o7 ++ [(8, i64 (v 8))]) (by unfold mVB; rw [hl]; rfl) rfl) trivial (ltB_ok rfl rfl hi) (fun p hp => ?_) (fun p hp => by cases hp) List.nodup_nil List.nodup_nil)
  · obtain ⟨ρ1, fr1, frs1, rfl, o1, Ag, f1, fs1⟩ := hd
    obtain ⟨frM, rfl, fM⟩ := fats_one fs1
    refine ⟨fr1, frM, rfl, ⟨o1.heap.sub fun r x e => e, o1.keeps, o1.le⟩, fa_agree Ag f1 (by kernel_rfl), ?_⟩
    have := fa_agree Ag fM (by kernel_rfl)
    unfold mVB
    rw [hl]
    exact this
  · obtain rfl := List.mem_singleton.1 hp
    exact old_ev (ok.D i hi) (el_ev rfl rfl (by omega)) rfl
theorem su_new (o : On base W0 L w) {x : Int} (hf : AtRet x fr) (hM : F6 (suM [0] [6, 7] [1]) (mVB d C f g ++ [(8, iV i)]) frM) :
    Go1 base (G fr (frM :: cs)) w fun g' w' => ∃ fr' frM', g' = G fr' (frM' :: cs) ∧ On base W0 L w' ∧ FA 17 5 [.code (bodyOf Tryz.f17)] [] .normal [] fr' ∧ F6 (suM [1,0] [0, 1] [1,1]) (mVB d C f g ++ [(8, iV i), (9, iV x)]) frM' := by
  let ρ : Env := mE d C f g .nilIface [(8, i), (9, x)] [] []
  refine Walk.weaken (fun g' w' hd => ?_) (walkZ (frs := [frM]) (callers := [suA (stOf frM)]) (cs := cs) o [] [] (suNew (stOf fr) (stOf frM)) rfl rfl (by kernel_rfl) (by kernel_rfl) (ρ := ρ) (hf.rel (.inl rfl) [(4, i64 (v 9))] rfl rfl) ⟨hM.rel (.inl rfl) (mB o0 o1 o6 o7 ++ [(8, i64 (v 8))]) rfl rfl, trivial⟩ (fun p hp => by cases hp) (fun p hp => by cases hp) (fun p hp => by cases hp) List.nodup_nil List.nodup_nil)
  obtain ⟨ρ1, fr1, frs1, rfl, o1, Ag, f1, fs1⟩ := hd
  obtain ⟨frM', rfl, fM⟩ := fats_one fs1
  exact ⟨fr1, frM', rfl, ⟨o1.heap.sub fun r x e => e, o1.keeps, o1.le⟩, fa_agree Ag f1 (by kernel_rfl), fa_agree Ag fM (by kernel_rfl)⟩
theorem su_wi (o : On base W0 L w) {x : Int} {b : Nat} (hf : FA 17 5 [.code .ret] [] .normal [(0, ptrV b)] fr) (hM : F6 (suM [1,0] [0, 1] [1,1]) (mVB d C f g ++ [(8, iV i), (9, iV x)]) frM) :
    Go1 base (G fr (frM :: cs)) w fun g' w' => ∃ fr' frM', g' = G fr' (frM' :: cs) ∧ On base W0 L w' ∧ WiIn C b x fr' ∧ F6 (suM [1,1,0] [3, 4, 5, 6, 7, 8] [1,1,1]) (mVB d C f g ++ [(8, iV i), (9, iV x), (10, ptrV b)]) frM' := by
  let ρ : Env := mE d C f g .nilIface [(8, i), (9, x)] [(60, b)] []
  refine Walk.weaken (fun g' w' hd => ?_) (walkZ (frs := [frM]) (callers := [suB (stOf frM)]) (cs := cs) o [] [] (suWi (stOf fr) (stOf frM)) rfl rfl (by kernel_rfl) (by kernel_rfl) (ρ := ρ) (hf.rel (.inl rfl) [(0, ptr0 60)] rfl rfl) ⟨hM.rel (.inl rfl) (mB o0 o1 o6 o7 ++ [(8, i64 (v 8)), (9, i64 (v 9))]) rfl rfl, trivial⟩ (fun p hp => by cases hp) (fun p hp => by cases hp) (fun p hp => by cases hp) List.nodup_nil List.nodup_nil)
  obtain ⟨ρ1, fr1, frs1, rfl, o1, Ag, f1, fs1⟩ := hd
  obtain ⟨frM', rfl, fM⟩ := fats_one fs1
  exact ⟨fr1, frM', rfl, ⟨o1.heap.sub fun r x e => e, o1.keeps, o1.le⟩, fa_agree Ag f1 (by kernel_rfl), fa_agree Ag fM (by kernel_rfl)⟩
/-- A list's header: it has i elements. -/
def hdV (i b c : Nat) : Value := match i with
  | 0 => nilV
  | i + 1 => .slice (some ⟨b, 0, none⟩) (i + 1) c
theorem hdV_pos {i b c : Nat} (h : 0 < i) : hdV i b c = .slice (some ⟨b, 0, none⟩) i c := by
  cases i with
  | zero => omega
  | succ i => rfl
/-- A list's block. -/
def VecIs (L : Lay) (r : Role) (i b c : Nat) (xs : List Value) : Prop := xs.length = i ∧ (i ≠ 0 → L r = some (b, .vec 43 c xs))
theorem size43 (inf : TypeInfo) (hi : Tryz.prog.info? 43 = some inf) : inf.size = 1 := by
  have e2 : (Tryz.prog.info? 43).map (fun x => x.size) = some 1 := by kernel_rfl
  rw [hi] at e2
  exact Option.some.inj e2
theorem inc {i : Nat} (h : i < 1000000) : iop .add .i64 (i : Int) 1 = ((i + 1 : Nat) : Int) := by
  show IntKind.wrap .i64 ((i : Int) + 1) = _
  rw [IntWalk.i64_in _ (by omega)]
  omega
theorem su_ap (hi : i < 16) {x : Int} {b y FB cF GB cG : Nat} {fs gs : List Value} (VF : VecIs L (0, 5) i FB cF fs) (VG : VecIs L (0, 6) i GB cG gs) (o : On base W0 L w) (hf : FA 27 51 [.code .ret] [] .normal [(8, ptrV y), (9, iV 0)] fr) (hM : F6 (suM [1,1,0] [3, 4, 5, 6, 7, 8] [1,1,1]) (mVB d C (hdV i FB cF) (hdV i GB cG) ++ [(8, iV i), (9, iV x), (10, ptrV b)]) frM) :
    Go1 base (G fr (frM :: cs)) w fun g' w' => ∃ fr' L' FB' cF' GB' cG', g' = G fr' cs ∧ On base W0 L' w' ∧ VecIs L' (0, 5) (i + 1) FB' cF' (fs ++ [ptrV b]) ∧ VecIs L' (0, 6) (i + 1) GB' cG' (gs ++ [ptrV y]) ∧ (∀ r : Role, r ≠ (0, 5) → r ≠ (0, 6) → r ≠ (0, 9) → r ≠ (0, 10) → L' r = L r) ∧ SuAt d C (hdV (i + 1) FB' cF') (hdV (i + 1) GB' cG') ((i + 1 : Nat) : Int) fr' := by
  let z : Bool := decide (i = 0)
  have hz1 : z = true → i = 0 := fun e => of_decide_eq_true e
  have hz2 : z = false → i ≠ 0 := fun e => of_decide_eq_false e
  let ρ : Env := mE d C (hdV i FB cF) (hdV i GB cG) .nilIface [(8, i), (9, x), (57, cF), (58, cG)] [(60, b), (70, y), (52, FB), (53, GB)] [(63, .agg fs.toArray), (64, .agg gs.toArray)]
  let pre : List (Role × Nat × ABlk) := if z then [] else [((0, 5), 52, .pre false 63 (v 8) [] [] [] 43 (v 57)), ((0, 6), 53, .pre false 64 (v 8) [] [] [] 43 (v 58))]
  have hpre : PreL L ρ pre := fun pr hp => by
    by_cases hz : z = true
    · simp only [pre, hz, if_true] at hp
      cases hp
    · have hz' : z = false := by simpa using hz
      simp only [pre, hz', Bool.false_eq_true, if_false, List.mem_cons, List.not_mem_nil, or_false] at hp
      rcases hp with rfl | rfl
      · refine ⟨_, VF.2 (hz2 hz'), rfl, rfl, fun inf hinf => ?_, (fun q hq => by cases hq), rfl⟩
        rw [size43 inf hinf, VF.1]
        show i = (((i : Nat) : Int)).toNat * 1
        omega
      · refine ⟨_, VG.2 (hz2 hz'), rfl, rfl, fun inf hinf => ?_, (fun q hq => by cases hq), rfl⟩
        rw [size43 inf hinf, VG.1]
        show i = (((i : Nat) : Int)).toNat * 1
        omega
  have e1 : suPre z = pre.map (·.2) := by
    simp only [pre]
    cases z <;> rfl
  have hv := suAp z (stOf fr) (stOf frM)
  rw [e1] at hv
  have hlow : cfgLow 100 (cfg (wiF (stOf fr)) [suC z (stOf frM)] (suPre z)) = true := by cases z <;> kernel_rfl
  rw [e1] at hlow
  have eS : ∀ {B c bb cc : Nat}, ρ.b bb = B → ρ.i cc = c → (sliZ z bb cc).ev ρ = hdV i B c := fun {B c bb cc} h1 h2 => by
    by_cases hz : z = true
    · rw [hz, hz1 hz]; rfl
    · have hz' : z = false := by simpa using hz
      rw [hz', hdV_pos (Nat.pos_of_ne_zero (hz2 hz'))]
      show Value.slice (some ⟨ρ.b bb, 0, none⟩) (((i : Nat) : Int)).toNat (ρ.i cc).toNat = _
      rw [h1, h2]
      rfl
  refine Walk.weaken (fun g' w' hd => ?_) (walkZ (frs := [frM]) (callers := [suC z (stOf frM)]) (cs := cs) o pre [((0, 6), 103, apA z 64 70 103), ((0, 9), 102, .cells [ptr0 70] 43), ((0, 5), 101, apA z 63 60 101), ((0, 10), 100, .cells [ptr0 60] 43)] hv rfl rfl hlow (by cases z <;> kernel_rfl) (ρ := ρ) (hf.rel (.inl rfl) [(8, ptr0 70), (9, i64 (.lit 0))] rfl rfl) ⟨hM.rel (.inl rfl) (mB o0 o1 (sliZ z 52 57) (sliZ z 53 58) ++ [(8, i64 (v 8)), (9, i64 (v 9)), (10, ptr0 60)]) ?_ rfl, trivial⟩ (fun p hp => ?_) (fun p hp => by cases hp) hpre ?_ (by simp))
  · obtain ⟨ρ1, fr1, frs1, rfl, on1, Ag, f1, fs1⟩ := hd
    obtain rfl := fats_none fs1
    have e8 : ρ1.i 8 = i := Ag.i 8 (by decide)
    have e60 : ρ1.b 60 = b := Ag.b 60 (by decide)
    have e70 : ρ1.b 70 = y := Ag.b 70 (by decide)
    have e10 : ρ1.b 10 = C := Ag.b 10 (by decide)
    have v63 : ρ1.v 63 = .agg fs.toArray := congrFun Ag.v 63
    have v64 : ρ1.v 64 = .agg gs.toArray := congrFun Ag.v 64
    have v30 : ρ1.v 30 = d.hl := congrFun Ag.v 30
    have v31 : ρ1.v 31 = d.hs := congrFun Ag.v 31
    have eA : ∀ {s bb cc B : Nat} {xs : List Value}, ρ1.v s = .agg xs.toArray → ρ1.b bb = B → xs.length = i → blkOf ρ1 (apA z s bb cc) = .vec 43 (ρ1.i cc).toNat (xs ++ [ptrV B]) := fun {s bb cc B xs} h1 h2 h3 => by
      by_cases hz : z = true
      · rw [hz, List.length_eq_zero_iff.1 (h3.trans (hz1 hz))]
        show Blk.vec 43 (ρ1.i cc).toNat [ptrV (ρ1.b bb)] = _
        rw [h2]
        rfl
      · have hz' : z = false := by simpa using hz
        rw [hz']
        show Blk.vec 43 (ρ1.i cc).toNat (listV (ρ1.v s) ++ [ptrV (ρ1.b bb)]) = _
        rw [h1, h2]
        rfl
    have eP : ∀ {bb : Nat}, (apS z bb).ev ρ1 = hdV (i + 1) (ρ1.b bb) (ρ1.i bb).toNat := fun {bb} => by
      by_cases hz : z = true
      · rw [hz, hz1 hz]; rfl
      · have hz' : z = false := by simpa using hz
        rw [hz']
        show Value.slice (some ⟨ρ1.b bb, 0, none⟩) ((((ρ1.i 8).toNat : Nat) : Int) + 1).toNat (ρ1.i bb).toNat = _
        rw [e8]
        show Value.slice _ ((((i : Int).toNat : Nat) : Int) + 1).toNat _ = _
        rw [show ((((i : Int).toNat : Nat) : Int) + 1).toNat = i + 1 from by omega]
        rfl
    refine ⟨fr1, _, ρ1.b 101, (ρ1.i 101).toNat, ρ1.b 103, (ρ1.i 103).toNat, rfl, on1, ⟨by simp [VF.1], fun _ => ?_⟩, ⟨by simp [VG.1], fun _ => ?_⟩, fun r h5 h6 h9 h10 => ?_, ?_⟩
    · show some (ρ1.b 101, blkOf ρ1 (apA z 63 60 101)) = _
      rw [eA v63 e60 VF.1]
    · show some (ρ1.b 103, blkOf ρ1 (apA z 64 70 103)) = _
      rw [eA v64 e70 VG.1]
    · refine relay_out (fun x hx => ?_) fun hm => ?_
      · simp only [postL, List.map_cons, List.map_nil, List.mem_cons, List.not_mem_nil, or_false] at hx
        rcases hx with rfl | rfl | rfl | rfl
        · exact h6.symm
        · exact h9.symm
        · exact h5.symm
        · exact h10.symm
      · by_cases hz : z = true
        · simp only [pre, hz, if_true] at hm
          cases hm
        · have hz' : z = false := by simpa using hz
          simp only [pre, hz', Bool.false_eq_true, if_false, List.map_cons, List.map_nil, List.mem_cons, List.not_mem_nil, or_false] at hm
          exact hm.elim h5 h6
    · have h := f1
      dsimp only at h
      rw [evs_app] at h
      have hb : AV.evs ρ1 (mBv o0 o1 (apS z 101) (apS z 103)) = [d.hl, d.hs, .bool false, ptrV C, hdV (i + 1) (ρ1.b 101) (ρ1.i 101).toNat, hdV (i + 1) (ρ1.b 103) (ρ1.i 103).toNat] := by
        show [ρ1.v 30, ρ1.v 31, .bool false, ptrV (ρ1.b 10), (apS z 101).ev ρ1, (apS z 103).ev ρ1] = _
        rw [v30, v31, e10, eP, eP]
      rw [hb] at h
      have e9 : AV.evs ρ1 [i64 (.op .add .i64 (v 8) (.lit 1))] = [iV ((i + 1 : Nat) : Int)] := by
        show [iV (iop .add .i64 (ρ1.i 8) 1)] = _
        rw [e8, inc (by omega)]
      rw [e9] at h
      exact h
  · show [(0, d.hl), (1, d.hs), (4, Value.bool false), (5, ptrV C), (6, (sliZ z 52 57).ev ρ), (7, (sliZ z 53 58).ev ρ), (8, iV i), (9, iV x), (10, ptrV b)] = _
    rw [eS rfl rfl, eS rfl rfl]
    rfl
  · by_cases hz : z = true
    · rw [hz] at hp
      cases hp
    · have hz' : z = false := by simpa using hz
      rw [hz'] at hp
      obtain rfl := List.mem_singleton.1 hp
      show decide (((((i : Nat) : Int).toNat : Nat) : Int) + 1 ≤ 1048576) = true
      exact decide_eq_true (by omega)
  · by_cases hz : z = true
    · simp only [pre, hz, if_true]
      exact List.nodup_nil
    · have hz' : z = false := by simpa using hz
      simp only [pre, hz', Bool.false_eq_true, if_false]
      simp
end
end Go.Proofs.YtmnahfonnljobaaGreatDoor
/-
  LimitOrder's setup: the loop. Conditions: none.
-/
set_option maxRecDepth 100000
set_option linter.unusedVariables false
set_option linter.unusedSimpArgs false
namespace Go.Proofs.YtmnahfonnljobaaGreatDoor
open Go.Proofs.YtmnahfonnljobaaGreatDoor.SX Go.Conc

structure SuMem (L : Lay) (d : Dat) (K : CK) (i : Nat) (T : Nat → TM) (FB cF GB cG : Nat) (fs gs : List Value) : Prop where
  sys : Sys L K i T (fun _ => .w) 0 0
  nf : ∀ j, i ≤ j → j < 16 → K.fn j = .nilFunc
  D : ∀ j, j < i → (T j).D = atV 40 (m1000 (d.D j))
  vf : VecIs L (0, 5) i FB cF fs
  vg : VecIs L (0, 6) i GB cG gs
  f : ∀ j, j < i → fs[j]? = some (ptrV ((T j).b 1))
  g : ∀ j, j < i → gs[j]? = some (ptrV ((T j).b 8))
section
variable {base : Nat} {W0 w : World} {L : Lay} {cs : List Frame} {fr frM : Frame} {d : Dat} {i FB cF GB cG : Nat} {fs gs : List Value} {K : CK} {T : Nat → TM}
theorem su_step (ok : d.Ok base W0) (hi : i < d.n) (M : SuMem L d K i T FB cF GB cG fs gs) (o : On base W0 L w) (hf : SuAt d K.C (hdV i FB cF) (hdV i GB cG) i fr) :
    Go1 base (G fr cs) w fun g' w' => ∃ fr' L' K' T' FB' cF' GB' cG' fs' gs', g' = G fr' cs ∧ On base W0 L' w' ∧ SuMem L' d K' (i + 1) T' FB' cF' GB' cG' fs' gs' ∧ SuAt d K'.C (hdV (i + 1) FB' cF') (hdV (i + 1) GB' cG') ((i + 1 : Nat) : Int) fr' := by
  have hn := ok.n
  have hi' : i < 16 := by omega
  refine (Walk.trans (m := 0) (fun g' w' hd => ?_) (su_in ok hi o hf)).any
  obtain ⟨fr1, m1, rfl, o1', f1, h1⟩ := hd
  refine (Walk.trans (m := 0) (fun g' w' hd => ?_) (at_all true o1' f1)).any
  obtain ⟨fr2, rfl, o2', f2⟩ := hd
  obtain ⟨b0, b1⟩ := atV_lt (m := 40) (x := m1000 (d.D i)) (by omega) (by omega)
  refine (Walk.trans (m := 0) (fun g' w' hd => ?_) (su_new o2' f2 h1)).any
  obtain ⟨fr3, m3, rfl, o3', f3, h3⟩ := hd
  refine (Walk.trans (m := 0) (fun g' w' hd => ?_) (ne_all i o3' f3)).any
  obtain ⟨fr4, L4, q, rfl, o4', N4, k4, f4⟩ := hd
  refine (Walk.trans (m := 0) (fun g' w' hd => ?_) (su_wi o4' f4 h3)).any
  obtain ⟨fr5, m5, rfl, o5', f5, h5⟩ := hd
  have S4 : Sys L4 K i T (fun _ => .w) 0 0 := ⟨(k4 _ (.inr (.inl (by decide)))).trans M.sys.clk, (k4 _ (.inr (.inl (by decide)))).trans M.sys.N, (k4 _ (.inr (.inl (by decide)))).trans M.sys.B, fun j hj k a b => (k4 _ (.inl (by show j ≠ i; omega))).trans (M.sys.tm j hj k a b), M.sys.sl, fun j hj => (k4 _ (.inl (by show j ≠ i; omega))).trans (M.sys.due j hj), fun j a b => ⟨(k4 _ (.inr (.inr (by show 7 ≤ 17; omega)))).trans (M.sys.free j a b).1, (k4 _ (.inr (.inr (by show 7 ≤ 18; omega)))).trans (M.sys.free j a b).2⟩, M.sys.le⟩
  refine (Walk.trans (m := 0) (fun g' w' hd => ?_) (wi_all hi' b0 b1 S4 M.nf N4 o5' f5)).any
  obtain ⟨fr6, L6, t, f, rfl, o6', S6, e1, eD, k6, f6⟩ := hd
  have v5 : VecIs L6 (0, 5) i FB cF fs := ⟨M.vf.1, fun h => (k6 5 (by omega)).trans ((k4 _ (.inr (.inl (by decide)))).trans (M.vf.2 h))⟩
  have v6 : VecIs L6 (0, 6) i GB cG gs := ⟨M.vg.1, fun h => (k6 6 (by omega)).trans ((k4 _ (.inr (.inl (by decide)))).trans (M.vg.2 h))⟩
  refine Walk.weaken (fun g' w' hd => ?_) (su_ap hi' v5 v6 o6' f6 h5)
  obtain ⟨fr7, L7, FB7, cF7, GB7, cG7, rfl, o7', w5, w6, k7, f7⟩ := hd
  have ut : ∀ {j}, j < i → updT T i t j = T j := fun {j} hj => if_neg (by omega)
  have us : updT T i t i = t := if_pos rfl
  have get : ∀ {xs : List Value} {p : Nat → Nat} {y : Nat}, xs.length = i → (∀ j, j < i → xs[j]? = some (ptrV ((T j).b (p 0)))) → t.b (p 0) = y → ∀ j, j < i + 1 → (xs ++ [ptrV y])[j]? = some (ptrV ((updT T i t j).b (p 0))) := fun {xs p y} hx h1 h2 j hj => by
    by_cases e : j = i
    · subst e
      rw [us, List.getElem?_append_right (by omega), hx, Nat.sub_self, h2]
      rfl
    · rw [ut (by omega), List.getElem?_append_left (by omega)]
      exact h1 j (by omega)
  refine ⟨fr7, L7, K.put i f, updT T i t, FB7, cF7, GB7, cG7, _, _, rfl, o7', ⟨S6.keep fun r hr => k7 r (by rintro rfl; cases hr) (by rintro rfl; cases hr) (by rintro rfl; cases hr) (by rintro rfl; cases hr), fun j a b => ?_, fun j hj => ?_, w5, w6, get (p := fun _ => 1) M.vf.1 M.f e1, get (p := fun _ => 8) M.vg.1 M.g rfl⟩, f7⟩
  · show (if j = i then f else K.fn j) = _
    rw [if_neg (by omega)]
    exact M.nf j (by omega) b
  · by_cases e : j = i
    · subst e
      rw [us, eD]
    · rw [ut (by omega)]
      exact M.D j (by omega)
theorem su_loop (ok : d.Ok base W0) : ∀ (m i : Nat), i + m = d.n → ∀ {L : Lay} {w : World} {fr : Frame} {K : CK} {T : Nat → TM} {FB cF GB cG : Nat} {fs gs : List Value}, SuMem L d K i T FB cF GB cG fs gs → On base W0 L w → SuAt d K.C (hdV i FB cF) (hdV i GB cG) i fr →
    Go1 base (G fr cs) w fun g' w' => ∃ fr' L' K' T' FB' cF' GB' cG' fs' gs', g' = G fr' cs ∧ On base W0 L' w' ∧ SuMem L' d K' d.n T' FB' cF' GB' cG' fs' gs' ∧ SuAt d K'.C (hdV d.n FB' cF') (hdV d.n GB' cG') (d.n : Int) fr' := by
  intro m
  induction m with
  | zero =>
    intro i hi L w fr K T FB cF GB cG fs gs M o hf
    obtain rfl : i = d.n := by omega
    exact Walk.stop ⟨fr, L, K, T, FB, cF, GB, cG, fs, gs, rfl, o, M, hf⟩
  | succ m ih =>
    intro i hi L w fr K T FB cF GB cG fs gs M o hf
    refine (Walk.trans (m := 0) (fun g' w' hd => ?_) (su_step ok (by omega) M o hf)).any
    obtain ⟨fr1, L1, K1, T1, FB1, cF1, GB1, cG1, fs1, gs1, rfl, on1, M1, f1⟩ := hd
    exact ih (i + 1) (by omega) M1 on1 f1
end
end Go.Proofs.YtmnahfonnljobaaGreatDoor
/-
  LimitOrder's entry and its setup's end. Conditions: none.
-/
set_option maxRecDepth 100000
set_option linter.unusedVariables false
set_option linter.unusedSimpArgs false
namespace Go.Proofs.YtmnahfonnljobaaGreatDoor
open Go.Proofs.YtmnahfonnljobaaGreatDoor.SX Go.Conc

/-! ### one step by hand -/
section
variable {base : Nat} {W0 w : World} {L : Lay} {cs : List Frame} {fr : Frame}
theorem On.drawn (o : On base W0 L w) (d : Nat) : On base W0 L (drawnAt w d) := by
  have kp : Keeps (fun b => w.heap.size ≤ b) w (drawnAt w d) := ⟨fun n hn => rfl, Nat.le_refl _, rfl, rfl, rfl⟩
  exact ⟨o.heap.keepN kp, o.keeps.trans (kp.mono fun b hb => o.new hb), o.le⟩
theorem hand1 {a a' : Goroutine} (o : On base W0 L w) (hr : a.status = .running) (hs : ∀ w', stepG Tryz.prog true a w' = .go a' w' #[]) :
    Go1 base a w fun g' w' => g' = a' ∧ On base W0 L w' :=
  (Walk.one hr fun d => by
    rw [hs]
    exact ⟨⟨Keeps.refl _ _, fun e he => (by simp at he), fun _ _ _ _ x => x⟩, rfl, o.drawn d⟩).any
theorem put_getD {tm : Array Value} {d n : Nat} {v : Value} : (tm.setIfInBounds d v).getD n undef = if n = d ∧ d < tm.size then v else tm.getD n undef := by
  rw [Array.getD_eq_getD_getElem?, Array.getD_eq_getD_getElem?, Array.getElem?_setIfInBounds]
  by_cases h : d = n
  · subst h
    by_cases h2 : d < tm.size
    · simp [h2]
    · simp [h2]
  · have : ¬ (n = d) := fun e => h e.symm
    simp [h, this]
theorem hand_value1 {fn nt i : Nat} {ops : Array Oper} {rest : List Nat} {k : List Item} {ds : List Deferred} {kind : CallKind} {lv : List (Nat × Value)} {op : Oper} {d : Nat} {v : Value} (o : On base W0 L w) (hf : FA fn nt (.inRegion ops (i :: rest) :: k) ds kind lv fr) (ho : ops[i]? = some op) (hg : op.guard = none) (hd : op.dst = some d) (hdn : d < nt) (hk : plainK kind)
    (hv : ∀ (tm : Array Value) (w' : World), (∀ p ∈ lv, tm.getD p.1 undef = p.2) → (execOp (⟨tm, ds⟩ : Act).eval op).run Tryz.prog w' = .ok (.value v) w' ∧ (execOp (⟨tm, ds⟩ : Act).eval op).events Tryz.prog w' #[] = #[]) :
    Go1 base (G fr cs) w fun g' w' => ∃ fr', g' = G fr' cs ∧ On base W0 L w' ∧ FA fn nt (.inRegion ops rest :: k) ds kind ((d, v) :: lv.filter (fun p => !(p.1 == d))) fr' := by
  obtain ⟨⟨tm, rfl, h2, h3⟩, h4, h5⟩ := hf
  have hke : (mkF fn kind).kind ≠ .early := by rcases hk with rfl | rfl <;> simp [mkF]
  have hw : Region.wanted op (yielded ops (⟨tm, ds⟩ : Act).tmps) = true := by unfold Region.wanted; rw [hg]
  have hs : ∀ w', stepG Tryz.prog true (G ((mkF fn kind).at ⟨tm, ds⟩ (.inRegion ops (i :: rest) :: k)) cs) w' = .go (G ((mkF fn kind).at ((⟨tm, ds⟩ : Act).put op.dst v) (.inRegion ops rest :: k)) cs) w' #[] := fun w' => by
    obtain ⟨q1, q2⟩ := hv tm w' h3
    rw [stepG_value ho hw hke q1]
    unfold listed
    rw [q2]
    rfl
  refine Walk.weaken (fun g' w' hd' => ?_) (hand1 o rfl hs)
  obtain ⟨rfl, on1⟩ := hd'
  refine ⟨_, rfl, on1, ⟨tm.setIfInBounds d v, ?_, ?_, fun p hp => ?_⟩, h4, h5⟩
  · rw [hd]
    rfl
  · rw [Array.size_setIfInBounds]; exact h2
  · rw [put_getD]
    rcases List.mem_cons.1 hp with rfl | hp
    · rw [if_pos ⟨rfl, by omega⟩]
    · obtain ⟨q1, q2⟩ := List.mem_filter.1 hp
      have : ¬ (p.1 = d) := by simpa using q2
      rw [if_neg fun e => this e.1]
      exact h3 p q1
end
/-! ### a list's beginning -/
theorem cut_op {t elem size : Nat} (hU : under? Tryz.prog t = .ok (.slice elem)) (hS : sizeOf? Tryz.prog elem = .ok size) {off n c k : Nat} (h : k ≤ n) (hn : n ≤ c) (hc : c ≠ 0) : sliceOp? Tryz.prog t (.slice (some ⟨.dyn 50, .lit (Int.ofNat off)⟩) (.lit (Int.ofNat n)) (.lit (Int.ofNat c))) none (some (.int .i64 (.lit (Int.ofNat k)))) none = .ok (.slice (some ⟨.dyn 50, .lit (Int.ofNat off)⟩) (.lit (Int.ofNat k)) (.lit (Int.ofNat c))) := by
  unfold sliceOp?
  rw [hU]
  simp only [bind, Except.bind, litNat?, bounds?, bound?, high?, hS, pure, Except.pure]
  have : k ≤ c := by omega
  simp [this, hc, AA.add, addN]
theorem cut_run {f : Operand → Value} {op : Oper} {x y : Operand} {t elem size : Nat} (ho : op.op = .slice t x none (some y) none) (hU : under? Tryz.prog t = .ok (.slice elem)) (hS : sizeOf? Tryz.prog elem = .ok size) {A off n c k : Nat} (w : World) (h1 : f x = slV A off n c) (h2 : f y = iV k) (h : k ≤ n) (hn : n ≤ c) (hc : c ≠ 0) :
    (execOp f op).run Tryz.prog w = .ok (.value (slV A off k c)) w ∧ (execOp f op).events Tryz.prog w #[] = #[] := by
  let K : Ctx := ⟨Tryz.prog, {}, fun _ => True, fun _ => False, True, fun _ _ => False⟩
  let ρ : Env := mkE [] [(50, A)] []
  have W : wq Tryz.prog (fun _ => False) (fun _ _ => False) (execOp f op) (fun r w' => r = .value (slV A off k c) ∧ w' = w) w := by
    unfold execOp
    simp only [ho, h1, h2, Option.map_some, Option.map_none, wq_bind]
    refine wq_sliceAt (K := K) (ρ := ρ) (w := w) (cut_op (off := off) (k := k) hU hS h hn hc) (Q := fun v w' => wq Tryz.prog (fun _ => False) (fun _ _ => False) (pure (Go.Next.value v)) (fun r w' => r = .value (slV A off k c) ∧ w' = w) w') ?_
    exact ⟨rfl, rfl⟩
  obtain ⟨q1, q2⟩ := wq_run W
  constructor
  · cases e : (execOp f op).run Tryz.prog w with
    | ok a w' =>
      rw [e] at q1
      obtain ⟨rfl, rfl⟩ := q1
      rfl
    | halt hh w' =>
      rw [e] at q1
      cases hh <;> exact q1.elim
  · refine Array.eq_empty_of_size_eq_zero ?_
    rcases Nat.eq_zero_or_pos ((execOp f op).events Tryz.prog w #[]).size with h | h
    · exact h
    · exact (q2 _ (Array.getElem_mem h)).elim
noncomputable def cA : Array Oper := opsOf (mP [1,0,1,0])
noncomputable def cB : Array Oper := opsOf (mP [1,1,0,1,0])
theorem cASome : (cA[1]?).isSome = true := by kernel_rfl
theorem cBSome : (cB[1]?).isSome = true := by kernel_rfl
noncomputable def cAo : Oper := (cA[1]?).get cASome
noncomputable def cBo : Oper := (cB[1]?).get cBSome
theorem cAis : cA[1]? = some cAo := (Option.some_get _).symm
theorem cBis : cB[1]? = some cBo := (Option.some_get _).symm
theorem cAdo : cAo.op = .slice 83 (.tmp 29) none (some (.const (.int .i64 16))) none := by kernel_rfl
theorem cBdo : cBo.op = .slice 37 (.tmp 34) none (some (.const (.int .i64 30))) none := by kernel_rfl
theorem cAg : cAo.guard = none := by kernel_rfl
theorem cBg : cBo.guard = none := by kernel_rfl
theorem cAd : cAo.dst = some 30 := by kernel_rfl
theorem cBd : cBo.dst = some 35 := by kernel_rfl
theorem cAu : under? Tryz.prog 83 = .ok (.slice 85) := by kernel_rfl
theorem cAs : sizeOf? Tryz.prog 85 = .ok 2 := by kernel_rfl
theorem cBu : under? Tryz.prog 37 = .ok (.slice 2) := by kernel_rfl
theorem cBs : sizeOf? Tryz.prog 2 = .ok 1 := by kernel_rfl

/-! ### closed data -/
noncomputable def inT : List Item := [.code (mP [1,1])]
noncomputable def inE (z : Bool) (st : Nat → Value) : AFrame := fr6 [.code (bodyOf Tryz.f6)] [(0, slz z), (1, o1)] st
noncomputable def inBs (z b : Bool) (n k : Nat) : List (BE × Bool) := Bool.rec [(.cmp .gtr (.tn (v n)) (.lit (Int.ofNat k)), b)] [] z
theorem inA (z : Bool) (st : Nat → Value) : seeF (runZ (inBs z false 51 16) [] 13 [] (cfg (inE z st) [] [])) [0, 1, 4] noL = some (S6 inT [] [slz z, o1, FB], []) := by cases z <;> kernel_rfl
theorem inC (st : Nat → Value) : seeF (runZ (inBs false true 51 16) [] 14 [] (cfg (inE false st) [] [])) [1, 4, 29] noL = some (S6 [.inRegion cA [1, 2], .code (mP [1,1])] [] [o1, FB, sl5], []) := by kernel_rfl
noncomputable def inA2 (st : Nat → Value) : AFrame := fr6 [.inRegion cA [2], .code (mP [1,1])] [(1, o1), (4, FB), (30, .opq 38)] st
theorem inC2 (st : Nat → Value) : seeF (runZ [] [] 2 [] (cfg (inA2 st) [] [])) [0, 1, 4] noL = some (S6 inT [] [.opq 38, o1, FB], []) := by kernel_rfl
noncomputable def stz (z : Bool) : AV := Bool.rec st5 nilA z
noncomputable def inB (z : Bool) (st : Nat → Value) : AFrame := fr6 inT [(0, o0), (1, stz z), (4, FB)] st
noncomputable def nwK : List Nat := [134, 133, 132, 131, 130, 129, 128, 127, 126, 125, 124, 123, 122, 121, 120, 119, 118, 117, 116, 115, 114, 113, 112, 111, 110, 109, 108, 107, 106, 105, 104, 103, 102, 101, 100]
/-- A new clock. -/
noncomputable def nwH : List (Nat × ABlk) := ((List.range 32).map fun j => (134 - j, cel (.lit 0))) ++ [(102, .cells ([ptr0 100, ptr0 101] ++ ((List.range 16).map fun j => [ptr0 (103 + 2 * j), ptr0 (104 + 2 * j), .nilFunc]).flatten) 72), (101, cel (.lit 0)), (100, cel (.lit 0))]
theorem inD (z : Bool) (st : Nat → Value) : seeF (runZ (inBs z false 54 30) [] 463 nwK (cfg (inB z st) [] [])) [0, 1, 4, 5, 6, 7, 8] noL = some (S6 suT nwH [o0, stz z, FB, ptr0 102, nilA, nilA, i64 (.lit 0)], []) := by cases z <;> kernel_rfl
theorem inF (st : Nat → Value) : seeF (runZ (inBs false true 54 30) [] 10 [] (cfg (inB false st) [] [])) [0, 4, 34] noL = some (S6 [.inRegion cB [1, 2], .code (mP [1,1,1])] [] [o0, FB, st5], []) := by kernel_rfl
noncomputable def inB2 (st : Nat → Value) : AFrame := fr6 [.inRegion cB [2], .code (mP [1,1,1])] [(0, o0), (4, FB), (35, .opq 38)] st
theorem inF2 (st : Nat → Value) : seeF (runZ [] [] 456 nwK (cfg (inB2 st) [] [])) [0, 1, 4, 5, 6, 7, 8] noL = some (S6 suT nwH [o0, .opq 38, FB, ptr0 102, nilA, nilA, i64 (.lit 0)], []) := by kernel_rfl
noncomputable def slN (z : Bool) (n : Nat) : AV := Bool.rec (.slice (some ⟨.dyn 50, v 53⟩) (.lit (Int.ofNat n)) (v 52)) nilA z
noncomputable def seE (z : Bool) (n : Nat) (st : Nat → Value) : AFrame := fr6 suT (mB (slN z n) o1 o6 o7 ++ [(8, i64 (.lit (Int.ofNat n)))]) st
noncomputable abbrev seS (z : Bool) (n : Nat) : Option (Seen × List Seen) := some (S6 outT [(100, .cells (List.replicate n (i64 (.lit 0))) 3)] (mBv (slN z n) o1 o6 o7 ++ [i64 (.lit 0), .slice (some ⟨.dyn 100, .lit 0⟩) (.lit (Int.ofNat n)) (.lit (Int.ofNat n)), i64 (.lit 0)]), [])
theorem seNil (st : Nat → Value) : seeF (runZ [] [] 28 [100] (cfg (seE true 0 st) [] [])) lvC noL = seS true 0 := by kernel_rfl
theorem seAll {n : Nat} (h : n ≤ 16) (st : Nat → Value) : seeF (runZ [] [] 28 [100] (cfg (seE false n st) [] [])) lvC noL = seS false n := by
  rcases (by omega : n = 0 ∨ n = 1 ∨ n = 2 ∨ n = 3 ∨ n = 4 ∨ n = 5 ∨ n = 6 ∨ n = 7 ∨ n = 8 ∨ n = 9 ∨ n = 10 ∨ n = 11 ∨ n = 12 ∨ n = 13 ∨ n = 14 ∨ n = 15 ∨ n = 16) with rfl | rfl | rfl | rfl | rfl | rfl | rfl | rfl | rfl | rfl | rfl | rfl | rfl | rfl | rfl | rfl | rfl <;> kernel_rfl
end Go.Proofs.YtmnahfonnljobaaGreatDoor
/-
  LimitOrder's entry, up to its setup; the setup's end. Conditions: none.
-/
set_option maxRecDepth 100000
set_option linter.unusedVariables false
set_option linter.unusedSimpArgs false
namespace Go.Proofs.YtmnahfonnljobaaGreatDoor
open Go.Proofs.YtmnahfonnljobaaGreatDoor.SX Go.Conc

/-- What is handed in, cut. -/
def cutD (r : Dat) : Dat := { r with hl := if 16 < r.n then slV r.A r.o 16 r.c else r.hl, n := min r.n 16, hs := if 30 < r.ns then slV r.SA r.so 30 r.sc else r.hs, ns := min r.ns 30 }
structure Dat.Raw (d : Dat) (base : Nat) (W0 : World) : Prop where
  l : (d.hl = slV d.A d.o d.n d.c ∧ d.n ≤ d.c) ∨ (d.n = 0 ∧ d.hl = nilV)
  s : (d.hs = slV d.SA d.so d.ns d.sc ∧ d.ns ≤ d.sc) ∨ (d.ns = 0 ∧ d.hs = nilV)
  D : ∀ i, i < d.n → OldAt base W0 d.A (d.o + i * 2) (iV (d.D i))
  F : ∀ i, i < d.n → OldAt base W0 d.A (d.o + i * 2 + 1) (iV (d.Fl i))
  sp : ∀ i, i < d.ns → OldAt base W0 d.SA (d.so + i) (iV (d.sp i))
theorem Dat.Raw.cut {d : Dat} {base : Nat} {W0 : World} (R : d.Raw base W0) : (cutD d).Ok base W0 := by
  refine ⟨?_, ?_, Nat.min_le_right _ _, Nat.min_le_right _ _, fun i hi => R.D i (Nat.lt_of_lt_of_le hi (Nat.min_le_left _ _)), fun i hi => R.F i (Nat.lt_of_lt_of_le hi (Nat.min_le_left _ _)), fun i hi => R.sp i (Nat.lt_of_lt_of_le hi (Nat.min_le_left _ _))⟩
  · show (if 16 < d.n then slV d.A d.o 16 d.c else d.hl) = slV d.A d.o (min d.n 16) d.c ∨ (min d.n 16 = 0 ∧ (if 16 < d.n then slV d.A d.o 16 d.c else d.hl) = nilV)
    by_cases h : 16 < d.n
    · rw [if_pos h, Nat.min_eq_right (by omega)]
      exact .inl rfl
    · rw [if_neg h, Nat.min_eq_left (by omega)]
      rcases R.l with h1 | h1
      · exact .inl h1.1
      · exact .inr h1
  · show (if 30 < d.ns then slV d.SA d.so 30 d.sc else d.hs) = slV d.SA d.so (min d.ns 30) d.sc ∨ (min d.ns 30 = 0 ∧ (if 30 < d.ns then slV d.SA d.so 30 d.sc else d.hs) = nilV)
    by_cases h : 30 < d.ns
    · rw [if_pos h, Nat.min_eq_right (by omega)]
      exact .inl rfl
    · rw [if_neg h, Nat.min_eq_left (by omega)]
      rcases R.s with h1 | h1
      · exact .inl h1.1
      · exact .inr h1
section
variable {base : Nat} {W0 w : World} {L : Lay} {cs : List Frame} {fr frM : Frame} {d : Dat}
noncomputable def rawE (d : Dat) (s : Value) : Env := mkE [(51, (d.n : Int)), (52, (d.c : Int)), (53, (d.o : Int)), (54, (d.ns : Int)), (55, (d.sc : Int)), (56, (d.so : Int))] [(50, d.A), (51, d.SA)] [(30, (cutD d).hl), (31, d.hs), (38, s)]
theorem gt_ok {ρ : Env} {n k N : Nat} {z b : Bool} (h : ρ.i n = (N : Int)) (hb : b = decide (k < N)) : ∀ p ∈ inBs z b n k, p.1.ev ρ = p.2 := by
  intro p hp
  cases z with
  | true => cases hp
  | false =>
    obtain rfl := List.mem_singleton.1 hp
    show decide ((((ρ.i n).toNat : Nat) : Int) > (k : Int)) = b
    rw [h, hb]
    congr 1
    simp
theorem slz_ev {ρ : Env} {z : Bool} {A o n c : Nat} {x : Value} (h : (z = false ∧ x = slV A o n c) ∨ (z = true ∧ x = nilV)) (hA : ρ.b 50 = A) (h1 : ρ.i 51 = (n : Int)) (h2 : ρ.i 52 = (c : Int)) (h3 : ρ.i 53 = (o : Int)) : (slz z).ev ρ = x := by
  rcases h with ⟨rfl, rfl⟩ | ⟨rfl, rfl⟩
  · show Value.slice (some ⟨ρ.b 50, (ρ.i 53).toNat, none⟩) (ρ.i 51).toNat (ρ.i 52).toNat = _
    rw [hA, h1, h2, h3]
    rfl
  · rfl
theorem stz_ev {ρ : Env} {z : Bool} {A o n c : Nat} {x : Value} (h : (z = false ∧ x = slV A o n c) ∨ (z = true ∧ x = nilV)) (hA : ρ.b 51 = A) (h1 : ρ.i 54 = (n : Int)) (h2 : ρ.i 55 = (c : Int)) (h3 : ρ.i 56 = (o : Int)) : (stz z).ev ρ = x := by
  rcases h with ⟨rfl, rfl⟩ | ⟨rfl, rfl⟩
  · show Value.slice (some ⟨ρ.b 51, (ρ.i 56).toNat, none⟩) (ρ.i 54).toNat (ρ.i 55).toNat = _
    rw [hA, h1, h2, h3]
    rfl
  · rfl
theorem in_one (R : d.Raw base W0) (o : On base W0 L w) (hf : F6 [.code (bodyOf Tryz.f6)] [(0, d.hl), (1, d.hs)] fr) :
    Go1 base (G fr cs) w fun g' w' => ∃ fr', g' = G fr' cs ∧ On base W0 L w' ∧ F6 inT [(0, (cutD d).hl), (1, d.hs), (4, .bool false)] fr' := by
  by_cases hn : 16 < d.n
  · have hl : d.hl = slV d.A d.o d.n d.c ∧ d.n ≤ d.c := by
      rcases R.l with h | h
      · exact h
      · omega
    let ρ : Env := rawE d .nilIface
    refine (Walk.trans (m := 0) (fun g' w' hd => ?_) (walkZ (frs := []) (callers := []) (mem := []) (cs := cs) o [] [] (inC (stOf fr)) rfl rfl (by kernel_rfl) (by kernel_rfl) (ρ := ρ) (hf.rel (.inl rfl) [(0, slz false), (1, o1)] (by rw [hl.1]; rfl) rfl) trivial (gt_ok (N := d.n) rfl (decide_eq_true hn).symm) (fun p hp => by cases hp) (fun p hp => by cases hp) List.nodup_nil List.nodup_nil)).any
    obtain ⟨ρ1, fr1, frs1, rfl, on1, Ag, f1, fs1⟩ := hd
    obtain rfl := fats_none fs1
    have f1' : F6 [.inRegion cA [1, 2], .code (mP [1,1])] [(1, d.hs), (4, .bool false), (29, slV d.A d.o d.n d.c)] fr1 := fa_agree Ag f1 (by kernel_rfl)
    refine (Walk.trans (m := 0) (fun g' w' hd => ?_) (hand_value1 (L := L) ⟨on1.heap.sub fun r x e => e, on1.keeps, on1.le⟩ f1' cAis cAg cAd (by decide) (.inl rfl) (v := slV d.A d.o 16 d.c) fun tm w' ht => cut_run cAdo cAu cAs w' (ht (29, slV d.A d.o d.n d.c) (by simp)) rfl (by omega) hl.2 (by omega))).any
    obtain ⟨fr2, rfl, on2, f2⟩ := hd
    let ρ2 : Env := rawE d (slV d.A d.o 16 d.c)
    refine Walk.weaken (fun g' w' hd => ?_) (walkZ (frs := []) (callers := []) (bs := []) (mem := []) (cs := cs) on2 [] [] (inC2 (stOf fr2)) rfl rfl (by kernel_rfl) noO (ρ := ρ2) (FAt.rel (f2.sub (lv' := [(1, d.hs), (4, .bool false), (30, slV d.A d.o 16 d.c)]) (by intro p hp; simp only [List.mem_cons, List.not_mem_nil, or_false] at hp; rcases hp with rfl | rfl | rfl <;> simp)) (.inl rfl) [(1, o1), (4, FB), (30, .opq 38)] rfl rfl) trivial (fun p hp => by cases hp) (fun p hp => by cases hp) (fun p hp => by cases hp) List.nodup_nil List.nodup_nil)
    obtain ⟨ρ3, fr3, frs3, rfl, on3, Ag3, f3, fs3⟩ := hd
    obtain rfl := fats_none fs3
    refine ⟨fr3, rfl, ⟨on3.heap.sub fun r x e => e, on3.keeps, on3.le⟩, ?_⟩
    have := fa_agree Ag3 f3 (by kernel_rfl)
    rw [show (cutD d).hl = slV d.A d.o 16 d.c from if_pos hn]
    exact this
  · let ρ : Env := rawE d .nilIface
    have hc : (cutD d).hl = d.hl := if_neg hn
    obtain ⟨z, hz⟩ : ∃ z : Bool, (z = false ∧ d.hl = slV d.A d.o d.n d.c) ∨ (z = true ∧ d.hl = nilV) := by
      rcases R.l with h | h
      · exact ⟨false, .inl ⟨rfl, h.1⟩⟩
      · exact ⟨true, .inr ⟨rfl, h.2⟩⟩
    have es : (slz z).ev ρ = d.hl := slz_ev hz rfl rfl rfl rfl
    refine Walk.weaken (fun g' w' hd => ?_) (walkZ (frs := []) (callers := []) (mem := []) (cs := cs) o [] [] (inA z (stOf fr)) rfl rfl (by cases z <;> kernel_rfl) (by cases z <;> kernel_rfl) (ρ := ρ) (hf.rel (.inl rfl) [(0, slz z), (1, o1)] (by show [(0, (slz z).ev ρ), (1, d.hs)] = _; rw [es]) rfl) trivial (gt_ok (N := d.n) rfl (decide_eq_false hn).symm) (fun p hp => by cases hp) (fun p hp => by cases hp) List.nodup_nil List.nodup_nil)
    obtain ⟨ρ1, fr1, frs1, rfl, on1, Ag, f1, fs1⟩ := hd
    obtain rfl := fats_none fs1
    refine ⟨fr1, rfl, ⟨on1.heap.sub fun r x e => e, on1.keeps, on1.le⟩, ?_⟩
    have f2 := fa_agree Ag f1 (by cases z <;> kernel_rfl)
    have f3 : F6 inT [(0, (slz z).ev ρ), (1, d.hs), (4, .bool false)] fr1 := f2
    rw [es] at f3
    rw [hc]
    exact f3
noncomputable def nwPost : List (Role × Nat × ABlk) := ((List.range 32).map fun m => (((if m % 2 = 0 then 18 else 17), 15 - m / 2), 134 - m, cel (.lit 0))) ++ [((0, 0), 102, .cells ([ptr0 100, ptr0 101] ++ ((List.range 16).map fun j => [ptr0 (103 + 2 * j), ptr0 (104 + 2 * j), .nilFunc]).flatten) 72), ((0, 2), 101, cel (.lit 0)), ((0, 1), 100, cel (.lit 0))]
noncomputable def nwCK (ρ : Env) : CK := { C := ρ.b 102, N := ρ.b 100, B := ρ.b 101, sl := fun j => ρ.b (103 + 2 * j), du := fun j => ρ.b (104 + 2 * j), fn := fun _ => .nilFunc }
theorem nw_sys {ρ : Env} {d' : Dat} : SuMem (relay L [] (postL ρ nwPost)) d' (nwCK ρ) 0 (fun _ => ⟨fun _ => 0, 0, 0, 0, 0, 0, .nilIface, 0, 0, 0⟩) 0 0 0 0 [] [] := by
  have hnd : ((postL ρ nwPost).map (·.1)).Nodup := by
    have : (postL ρ nwPost).map (·.1) = nwPost.map (·.1) := by rw [postL, List.map_map]; rfl
    rw [this]
    show (nwPost.map (·.1)).Nodup
    have e : nwPost.map (·.1) = ((List.range 32).map fun m => (((if m % 2 = 0 then 18 else 17), 15 - m / 2) : Role)) ++ [(0, 0), (0, 2), (0, 1)] := rfl
    rw [e]
    decide
  have key : ∀ j, j < 16 → (((17, j) : Role), ρ.b (103 + 2 * j), celV 0) ∈ postL ρ nwPost := fun j hj => by
    refine List.mem_map.2 ⟨((17, j), 103 + 2 * j, cel (.lit 0)), List.mem_append_left _ (List.mem_map.2 ⟨31 - 2 * j, List.mem_range.2 (by omega), ?_⟩), rfl⟩
    show (((if (31 - 2 * j) % 2 = 0 then 18 else 17), 15 - (31 - 2 * j) / 2), 134 - (31 - 2 * j), cel (.lit 0)) = _
    rw [if_neg (by omega), show 15 - (31 - 2 * j) / 2 = j by omega, show 134 - (31 - 2 * j) = 103 + 2 * j by omega]
  have key2 : ∀ j, j < 16 → (((18, j) : Role), ρ.b (104 + 2 * j), celV 0) ∈ postL ρ nwPost := fun j hj => by
    refine List.mem_map.2 ⟨((18, j), 104 + 2 * j, cel (.lit 0)), List.mem_append_left _ (List.mem_map.2 ⟨30 - 2 * j, List.mem_range.2 (by omega), ?_⟩), rfl⟩
    show (((if (30 - 2 * j) % 2 = 0 then 18 else 17), 15 - (30 - 2 * j) / 2), 134 - (30 - 2 * j), cel (.lit 0)) = _
    rw [if_pos (by omega), show 15 - (30 - 2 * j) / 2 = j by omega, show 134 - (30 - 2 * j) = 104 + 2 * j by omega]
  refine ⟨⟨?_, ?_, ?_, fun i hi => by omega, fun i hi => by omega, fun i hi => by omega, fun i _ hi => ⟨relay_in hnd (key i hi), relay_in hnd (key2 i hi)⟩, by omega⟩, fun j _ _ => rfl, fun j hj => by omega, ⟨rfl, fun h => absurd rfl h⟩, ⟨rfl, fun h => absurd rfl h⟩, fun j hj => by omega, fun j hj => by omega⟩
  · rw [relay_in hnd (List.mem_of_getElem? (i := 32) rfl)]
    show some (ρ.b 102, Blk.obj 72 (AV.evs ρ _)) = _
    rw [evs_app, evs_flat (g := fun j => [ptrV ((nwCK ρ).sl j), ptrV ((nwCK ρ).du j), (nwCK ρ).fn j]) fun j hj => rfl]
    rfl
  · exact relay_in hnd (List.mem_of_getElem? (i := 34) rfl)
  · exact relay_in hnd (List.mem_of_getElem? (i := 33) rfl)
theorem nwNd : (nwPost.map (·.2.1)).Nodup := by
  have e : nwPost.map (·.2.1) = ((List.range 32).map fun m => 134 - m) ++ [102, 101, 100] := rfl
  rw [e]
  decide
theorem nwHp : nwH = nwPost.map (·.2) := rfl
theorem in_two (R : d.Raw base W0) (o : On base W0 L w) (hf : F6 inT [(0, (cutD d).hl), (1, d.hs), (4, .bool false)] fr) :
    Go1 base (G fr cs) w fun g' w' => ∃ fr' L' K T, g' = G fr' cs ∧ On base W0 L' w' ∧ SuMem L' (cutD d) K 0 T 0 0 0 0 [] [] ∧ SuAt (cutD d) K.C nilV nilV 0 fr' := by
  by_cases hn : 30 < d.ns
  · have hl : d.hs = slV d.SA d.so d.ns d.sc ∧ d.ns ≤ d.sc := by
      rcases R.s with h | h
      · exact h
      · omega
    have hc : (cutD d).hs = slV d.SA d.so 30 d.sc := if_pos hn
    let ρ : Env := rawE d .nilIface
    refine (Walk.trans (m := 0) (fun g' w' hd => ?_) (walkZ (frs := []) (callers := []) (mem := []) (cs := cs) o [] [] (inF (stOf fr)) rfl rfl (by kernel_rfl) (by kernel_rfl) (ρ := ρ) (hf.rel (.inl rfl) [(0, o0), (1, stz false), (4, FB)] (by rw [hl.1]; rfl) rfl) trivial (gt_ok (N := d.ns) rfl (decide_eq_true hn).symm) (fun p hp => by cases hp) (fun p hp => by cases hp) List.nodup_nil List.nodup_nil)).any
    obtain ⟨ρ1, fr1, frs1, rfl, on1, Ag, f1, fs1⟩ := hd
    obtain rfl := fats_none fs1
    have f1' : F6 [.inRegion cB [1, 2], .code (mP [1,1,1])] [(0, (cutD d).hl), (4, .bool false), (34, slV d.SA d.so d.ns d.sc)] fr1 := fa_agree Ag f1 (by kernel_rfl)
    refine (Walk.trans (m := 0) (fun g' w' hd => ?_) (hand_value1 (L := L) ⟨on1.heap.sub fun r x e => e, on1.keeps, on1.le⟩ f1' cBis cBg cBd (by decide) (.inl rfl) (v := slV d.SA d.so 30 d.sc) fun tm w' ht => cut_run cBdo cBu cBs w' (ht (34, slV d.SA d.so d.ns d.sc) (by simp)) rfl (by omega) hl.2 (by omega))).any
    obtain ⟨fr2, rfl, on2, f2⟩ := hd
    let ρ2 : Env := rawE d (slV d.SA d.so 30 d.sc)
    refine Walk.weaken (fun g' w' hd => ?_) (walkZ (frs := []) (callers := []) (bs := []) (mem := []) (cs := cs) on2 [] nwPost (inF2 (stOf fr2)) nwHp rfl (by kernel_rfl) noO (ρ := ρ2) (FAt.rel (f2.sub (lv' := [(0, (cutD d).hl), (4, .bool false), (35, slV d.SA d.so 30 d.sc)]) (by intro p hp; simp only [List.mem_cons, List.not_mem_nil, or_false] at hp; rcases hp with rfl | rfl | rfl <;> simp)) (.inl rfl) [(0, o0), (4, FB), (35, .opq 38)] rfl rfl) trivial (fun p hp => by cases hp) (fun p hp => by cases hp) (fun p hp => by cases hp) List.nodup_nil nwNd)
    obtain ⟨ρ3, fr3, frs3, rfl, on3, Ag3, f3, fs3⟩ := hd
    obtain rfl := fats_none fs3
    refine ⟨fr3, _, nwCK ρ3, _, rfl, on3, nw_sys, ?_⟩
    have h : F6 suT [(0, ρ3.v 30), (1, ρ3.v 38), (4, .bool false), (5, ptrV (ρ3.b 102)), (6, nilV), (7, nilV), (8, iV 0)] fr3 := f3
    rw [Ag3.v] at h
    unfold SuAt mVB
    rw [hc]
    exact h
  · let ρ : Env := rawE d .nilIface
    have hc : (cutD d).hs = d.hs := if_neg hn
    obtain ⟨z, hz⟩ : ∃ z : Bool, (z = false ∧ d.hs = slV d.SA d.so d.ns d.sc) ∨ (z = true ∧ d.hs = nilV) := by
      rcases R.s with h | h
      · exact ⟨false, .inl ⟨rfl, h.1⟩⟩
      · exact ⟨true, .inr ⟨rfl, h.2⟩⟩
    have es : (stz z).ev ρ = d.hs := stz_ev hz rfl rfl rfl rfl
    refine Walk.weaken (fun g' w' hd => ?_) (walkZ (frs := []) (callers := []) (mem := []) (cs := cs) o [] nwPost (inD z (stOf fr)) nwHp rfl (by cases z <;> kernel_rfl) (by cases z <;> kernel_rfl) (ρ := ρ) (hf.rel (.inl rfl) [(0, o0), (1, stz z), (4, FB)] (by show [(0, (cutD d).hl), (1, (stz z).ev ρ), (4, Value.bool false)] = _; rw [es]) rfl) trivial (gt_ok (N := d.ns) rfl (decide_eq_false hn).symm) (fun p hp => by cases hp) (fun p hp => by cases hp) List.nodup_nil nwNd)
    obtain ⟨ρ3, fr3, frs3, rfl, on3, Ag3, f3, fs3⟩ := hd
    obtain rfl := fats_none fs3
    refine ⟨fr3, _, nwCK ρ3, _, rfl, on3, nw_sys, ?_⟩
    have e2 : (stz z).ev ρ3 = d.hs := stz_ev hz (Ag3.b 51 (by decide)) (Ag3.i 54 (by decide)) (Ag3.i 55 (by decide)) (Ag3.i 56 (by decide))
    have h : F6 suT [(0, ρ3.v 30), (1, (stz z).ev ρ3), (4, .bool false), (5, ptrV (ρ3.b 102)), (6, nilV), (7, nilV), (8, iV 0)] fr3 := f3
    rw [Ag3.v, e2] at h
    unfold SuAt mVB
    rw [hc]
    exact h
/-- LimitOrder, from its entry to behind its setup. -/
theorem in_all (R : d.Raw base W0) (o : On base W0 L w) (hf : F6 [.code (bodyOf Tryz.f6)] [(0, d.hl), (1, d.hs)] fr) :
    Go1 base (G fr cs) w fun g' w' => ∃ fr' L' K' T' FB' cF' GB' cG' fs' gs', g' = G fr' cs ∧ On base W0 L' w' ∧ SuMem L' (cutD d) K' (cutD d).n T' FB' cF' GB' cG' fs' gs' ∧ SuAt (cutD d) K'.C (hdV (cutD d).n FB' cF') (hdV (cutD d).n GB' cG') ((cutD d).n : Int) fr' := by
  refine (Walk.trans (m := 0) (fun g' w' hd => ?_) (in_one R o hf)).any
  obtain ⟨fr1, rfl, on1, f1⟩ := hd
  refine (Walk.trans (m := 0) (fun g' w' hd => ?_) (in_two R on1 f1)).any
  obtain ⟨fr2, L2, K2, T2, rfl, on2, M2, f2⟩ := hd
  exact su_loop R.cut _ 0 (Nat.zero_add _) M2 on2 f2
end
end Go.Proofs.YtmnahfonnljobaaGreatDoor
