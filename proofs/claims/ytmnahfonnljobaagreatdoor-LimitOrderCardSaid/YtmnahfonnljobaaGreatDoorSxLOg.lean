/-
  LimitOrder: what holds between the steps; the setup's end; futures that are filled. Conditions: none.
-/
import Derived.Test.YtmnahfonnljobaaGreatDoorSxLOf
set_option maxRecDepth 100000
set_option linter.unusedVariables false
set_option linter.unusedSimpArgs false
namespace Go.Proofs.YtmnahfonnljobaaGreatDoor
open Go.Proofs.YtmnahfonnljobaaGreatDoor.SX Go.Conc

def eL (n : Nat) (E : Nat → Int) : List Value := (List.range n).map fun j => iV (E j)
theorem eL_length (n : Nat) (E : Nat → Int) : (eL n E).length = n := by simp [eL]
theorem eL_get {n : Nat} {E : Nat → Int} {j : Nat} (h : j < n) : (eL n E)[j]? = some (iV (E j)) := by simp [eL, h]
def updE (E : Nat → Int) (i : Nat) (x : Int) : Nat → Int := fun j => if j = i then x else E j
theorem eL_set {n : Nat} {E : Nat → Int} {i : Nat} {x : Int} (h : i < n) : (eL n E).set i (iV x) = eL n (updE E i x) := by
  refine List.ext_getElem? fun k => ?_
  by_cases hk : k < n
  · rw [eL_get hk, List.getElem?_set]
    unfold updE
    by_cases e : i = k
    · subst e
      rw [if_pos rfl, if_pos (by rw [eL_length]; exact h), if_pos rfl]
    · rw [if_neg e, eL_get hk, if_neg (fun e' => e e'.symm)]
  · rw [List.getElem?_eq_none (by rw [List.length_set, eL_length]; omega), List.getElem?_eq_none (by rw [eL_length]; omega)]
theorem size3 (inf : TypeInfo) (hi : Tryz.prog.info? 3 = some inf) : inf.size = 1 := by
  have e2 : (Tryz.prog.info? 3).map (fun x => x.size) = some 1 := by kernel_rfl
  rw [hi] at e2
  exact Option.some.inj e2
theorem some3 : (Tryz.prog.info? 3).isSome = true := by kernel_rfl
def setL (L : Lay) (r : Role) (x : Nat × Blk) : Lay := fun r' => if r' = r then some x else L r'
theorem setL_same {L : Lay} {r : Role} {x : Nat × Blk} : setL L r x r = some x := if_pos rfl
theorem setL_ne {L : Lay} {r r' : Role} {x : Nat × Blk} (h : r' ≠ r) : setL L r x r' = L r' := if_neg h
structure Run (L : Lay) (d : Dat) (K : CK) (T : Nat → TM) (X : Nat → St) (now : Int) (FB cF GB cG EB : Nat) (fs gs : List Value) (E : Nat → Int) : Prop where
  sys : Sys L K d.n T X now 0
  D : ∀ j, j < d.n → (T j).D = atV 40 (m1000 (d.D j))
  vf : VecIs L (0, 5) d.n FB cF fs
  vg : VecIs L (0, 6) d.n GB cG gs
  f : ∀ j, j < d.n → fs[j]? = some (ptrV ((T j).b 1))
  g : ∀ j, j < d.n → gs[j]? = some (ptrV ((T j).b 8))
  ve : L (0, 7) = some (EB, .vec 3 d.n (eL d.n E))
section
variable {base : Nat} {W0 w : World} {L : Lay} {cs : List Frame} {fr frM : Frame} {d : Dat} {C i FB cF GB cG EB : Nat} {f g e : Value} {fs gs : List Value} {K : CK} {T : Nat → TM} {X : Nat → St} {E : Nat → Int} {now s : Int}
theorem On.asVec {r : Role} {b n : Nat} {xs : List Value} (o : On base W0 L w) (h : L r = some (b, .obj 3 xs)) (hn : xs.length = n) : On base W0 (setL L r (b, .vec 3 n xs)) w := by
  have sub : ∀ r' b' k, setL L r (b, .vec 3 n xs) r' = some (b', k) → ∃ k', L r' = some (b', k') := fun r' b' k e => by
    unfold setL at e
    split at e
    · rename_i he
      cases e
      exact ⟨_, by rw [he]; exact h⟩
    · exact ⟨_, e⟩
  refine ⟨⟨fun r' b' k e => ?_, fun r1 r2 b' k k' e1 e2 => ?_, fun r' b' k e => ?_⟩, o.keeps, o.le⟩
  · unfold setL at e
    split at e
    · cases e
      obtain ⟨arr, h1, h2⟩ := o.heap.at' _ _ _ h
      obtain ⟨inf, hi⟩ := Option.isSome_iff_exists.1 some3
      refine ⟨arr, [], inf, h1, hi, by rw [h2, List.append_nil], ?_⟩
      rw [size3 inf hi, ← hn, ← h2]
      simp
    · exact o.heap.at' _ _ _ e
  · obtain ⟨k1, e1'⟩ := sub _ _ _ e1
    obtain ⟨k2, e2'⟩ := sub _ _ _ e2
    exact o.heap.inj _ _ _ _ _ e1' e2'
  · obtain ⟨k1, e1'⟩ := sub _ _ _ e
    exact o.heap.ge _ _ _ e1'
abbrev OuAt (d : Dat) (C : Nat) (f g e : Value) (now s : Int) (fr : Frame) : Prop := F6 outT (mVC d C f g e now s) fr
theorem evs_repl {ρ : Env} {a : AV} : ∀ n, AV.evs ρ (List.replicate n a) = List.replicate n (a.ev ρ)
  | 0 => rfl
  | n + 1 => by simp only [List.replicate_succ, AV.evs, evs_repl n]
theorem eL_zero (n : Nat) : eL n (fun _ => 0) = List.replicate n (iV 0) := by
  unfold eL
  rw [List.map_const']
  simp
theorem su_end (ok : d.Ok base W0) (M : SuMem L d K d.n T FB cF GB cG fs gs) (o : On base W0 L w) (hf : SuAt d K.C f g d.n fr) :
    Go1 base (G fr cs) w fun g' w' => ∃ fr' L' EB, g' = G fr' cs ∧ On base W0 L' w' ∧ Run L' d K T (fun _ => .w) 0 FB cF GB cG EB fs gs (fun _ => 0) ∧ OuAt d K.C f g (slV EB 0 d.n d.n) 0 0 fr' := by
  let ρ : Env := mE d K.C f g .nilIface [] [] []
  have hv : ∃ z : Bool, seeF (runZ [] [] 28 [100] (cfg (seE z d.n (stOf fr)) [] [])) lvC noL = seS z d.n ∧ (slN z d.n).ev ρ = d.hl ∧ cfgLow 100 (cfg (seE z d.n (stOf fr)) [] []) = true ∧ AV.lows 100 [slN z d.n] = true := by
    rcases ok.l with h | ⟨h1, h2⟩
    · exact ⟨false, seAll ok.n _, by rw [h]; rfl, by kernel_rfl, by kernel_rfl⟩
    · exact ⟨true, by rw [h1]; exact seNil _, by rw [h2]; rfl, by kernel_rfl, by kernel_rfl⟩
  obtain ⟨z, hv, es, hlow, hl2⟩ := hv
  refine Walk.weaken (fun g' w' hd => ?_) (walkZ (frs := []) (callers := []) (bs := []) (mem := []) (cs := cs) o [] [((0, 7), 100, .cells (List.replicate d.n (i64 (.lit 0))) 3)] hv rfl rfl hlow noO (ρ := ρ) (hf.rel (.inl rfl) (mB (slN z d.n) o1 o6 o7 ++ [(8, i64 (.lit (Int.ofNat d.n)))]) (by show [(0, (slN z d.n).ev ρ), (1, d.hs), (4, Value.bool false), (5, ptrV K.C), (6, f), (7, g), (8, iV d.n)] = _; rw [es]; rfl) rfl) trivial (fun p hp => by cases hp) (fun p hp => by cases hp) (fun p hp => by cases hp) List.nodup_nil (by simp))
  obtain ⟨ρ1, fr1, frs1, rfl, on1, Ag, f1, fs1⟩ := hd
  obtain rfl := fats_none fs1
  have h7 : relay L (([] : List (Role × Nat × ABlk)).map (·.1)) (postL ρ1 [((0, 7), 100, .cells (List.replicate d.n (i64 (.lit 0))) 3)]) (0, 7) = some (ρ1.b 100, .obj 3 (eL d.n fun _ => 0)) := by
    show some (ρ1.b 100, Blk.obj 3 (AV.evs ρ1 _)) = _
    rw [evs_repl, eL_zero]
    rfl
  have k7 : ∀ r : Role, r ≠ (0, 7) → relay L (([] : List (Role × Nat × ABlk)).map (·.1)) (postL ρ1 [((0, 7), 100, .cells (List.replicate d.n (i64 (.lit 0))) 3)]) r = L r := fun r hr => relay_out (fun x hx => by
    obtain rfl := List.mem_singleton.1 hx
    exact hr.symm) (by simp)
  have on2 := on1.asVec h7 (eL_length _ _)
  have k8 : ∀ r : Role, r ≠ (0, 7) → setL (relay L (([] : List (Role × Nat × ABlk)).map (·.1)) (postL ρ1 [((0, 7), 100, .cells (List.replicate d.n (i64 (.lit 0))) 3)])) (0, 7) (ρ1.b 100, .vec 3 d.n (eL d.n fun _ => 0)) r = L r := fun r hr => (setL_ne hr).trans (k7 r hr)
  refine ⟨fr1, _, ρ1.b 100, rfl, on2, ⟨M.sys.keep fun r hr => k8 r (by rintro rfl; cases hr), M.D, ⟨M.vf.1, fun h => (k8 _ (by decide)).trans (M.vf.2 h)⟩, ⟨M.vg.1, fun h => (k8 _ (by decide)).trans (M.vg.2 h)⟩, M.f, M.g, setL_same⟩, ?_⟩
  have e0 : (slN z d.n).ev ρ1 = d.hl := by
    have := AV.evs_agree Ag [slN z d.n] (AV.lows_in _ hl2)
    simp only [AV.evs, List.cons.injEq, and_true] at this
    rw [this]
    exact es
  have h : F6 outT [(0, (slN z d.n).ev ρ1), (1, ρ1.v 31), (4, .bool false), (5, ptrV (ρ1.b 10)), (6, ρ1.v 36), (7, ρ1.v 37), (13, iV 0), (14, slV (ρ1.b 100) 0 d.n d.n), (15, iV 0)] fr1 := f1
  rw [e0, Ag.v, show ρ1.b 10 = K.C from Ag.b 10 (by decide)] at h
  exact h

/-! ### the clock with one timer changed -/
theorem Sys.put {L' : Lay} {busy : Int} {n j : Nat} {x : St} (S : Sys L K n T X now busy) (hj : j < n) (h : Rest L L' j) (ht : TmAt L' K.C j (stT (T j) x)) : Sys L' K n T (updS X j x) now busy := by
  refine ⟨(h 0 0 (.inr (.inl (by omega)))).trans S.clk, (h 0 1 (.inr (.inl (by omega)))).trans S.N, (h 0 2 (.inr (.inl (by omega)))).trans S.B, fun i hi k h1 h2 => ?_, S.sl, fun i hi => (h 18 i (.inr (.inr (by omega)))).trans (S.due i hi), fun i h1 h2 => ⟨(h 17 i (.inl (by omega))).trans (S.free i h1 h2).1, (h 18 i (.inl (by omega))).trans (S.free i h1 h2).2⟩, S.le⟩
  unfold updS
  by_cases e : i = j
  · subst e
    rw [if_pos rfl]
    exact ht k h1 h2
  · rw [if_neg e, h k i (.inl e)]
    exact S.tm i hi k h1 h2
/-! ### fills -/
abbrev FiAt (d : Dat) (C : Nat) (f g e : Value) (now s i : Int) (fr : Frame) : Prop := F6 fiT (mVC d C f g e now s ++ [(16, iV i)]) fr
theorem ou_in (ok : d.Ok base W0) {s : Nat} (hs : s < d.ns) (o : On base W0 L w) (hf : OuAt d C f g e now s fr) :
    Go1 base (G fr cs) w fun g' w' => ∃ fr', g' = G fr' cs ∧ On base W0 L w' ∧ FiAt d C f g e now s 0 fr' := by
  have hl := ok.ss hs
  let ρ : Env := mE d C f g e [(13, now), (15, s)] [] []
  refine Walk.weaken (fun g' w' hd => ?_) (walkZ (frs := []) (callers := []) (mem := []) (cs := cs) o [] [] (ouIn (stOf fr)) rfl rfl (by kernel_rfl) (by kernel_rfl) (ρ := ρ) (hf.rel (.inl rfl) (mC o0 st5 o6 o7 o4) (by unfold mVC; rw [hl]; rfl) rfl) trivial (ltB_ok rfl rfl hs) (fun p hp => by cases hp) (fun p hp => by cases hp) List.nodup_nil List.nodup_nil)
  obtain ⟨ρ1, fr1, frs1, rfl, on1, Ag, f1, fs1⟩ := hd
  obtain rfl := fats_none fs1
  refine ⟨fr1, rfl, ⟨on1.heap.sub fun r x e => e, on1.keeps, on1.le⟩, ?_⟩
  have := fa_agree Ag f1 (by kernel_rfl)
  unfold FiAt mVC
  rw [hl]
  exact this
theorem fi_no (ok : d.Ok base W0) (hi : i < d.n) (hs : d.Fl i ≠ s) (o : On base W0 L w) (hf : FiAt d C f g e now s i fr) :
    Go1 base (G fr cs) w fun g' w' => ∃ fr', g' = G fr' cs ∧ On base W0 L w' ∧ FiAt d C f g e now s ((i + 1 : Nat) : Int) fr' := by
  have hl := ok.sl hi
  have hn := ok.n
  let ρ : Env := mE d C f g e [(13, now), (15, s), (16, i), (61, d.Fl i)] [] []
  refine Walk.weaken (fun g' w' hd => ?_) (walkZ (frs := []) (callers := []) (cs := cs) o [] [] (fiNo (stOf fr)) rfl rfl (by kernel_rfl) (by kernel_rfl) (ρ := ρ) (hf.rel (.inl rfl) (mC sl5 o1 o6 o7 o4 ++ [(16, i64 (v 16))]) (by unfold mVC; rw [hl]; rfl) rfl) trivial (fun p hp => ?_) (fun p hp => ?_) (fun p hp => by cases hp) List.nodup_nil List.nodup_nil)
  · obtain ⟨ρ1, fr1, frs1, rfl, on1, Ag, f1, fs1⟩ := hd
    obtain rfl := fats_none fs1
    refine ⟨fr1, rfl, ⟨on1.heap.sub fun r x e => e, on1.keeps, on1.le⟩, ?_⟩
    have := fa_agree Ag f1 (by kernel_rfl)
    unfold FiAt mVC
    rw [hl, ← inc (i := i) (by omega)]
    exact this
  · rcases List.mem_append.1 hp with hp | hp
    · exact ltB_ok (I := i) (N := d.n) rfl rfl hi p hp
    · obtain rfl := List.mem_singleton.1 hp
      show (d.Fl i == s) = false
      exact beq_false_of_ne hs
  · obtain rfl := List.mem_singleton.1 hp
    exact old_ev (ok.F i hi) (el_ev rfl rfl (by omega)) rfl
abbrev FiW (d : Dat) (C : Nat) (f g e : Value) (now s i : Int) (fr : Frame) : Prop := F6 fiW (mVC d C f g e now s ++ [(16, iV i), (90, .bool true)]) fr
theorem vec_at {r : Role} {n b c : Nat} {xs : List Value} {ρ : Env} {bb ii : Nat} {x : AV} {y : Value} (V : VecIs L r n b c xs) (hi : i < n) (hx : xs[i]? = some y) (hb : ρ.b bb = b) (hii : ρ.i ii = (i : Int)) (he : x.ev ρ = y) : MemO L [] base W0 ρ (at1 bb ii, x) := by
  refine .inl ⟨r, .vec 43 c xs, ?_, (by simp), ?_⟩
  · rw [at1_ev hii, hb]
    exact V.2 (by omega)
  · rw [at1_ev hii, he]
    exact hx
theorem fi_co (ok : d.Ok base W0) (hi : i < d.n) (hs : d.Fl i = s) (R : Run L d K T X now FB cF GB cG EB fs gs E) (o : On base W0 L w) (hf : FiAt d C (hdV d.n FB cF) g e now s i fr) :
    Go1 base (G fr cs) w fun g' w' => ∃ fr' frM, g' = G fr' (frM :: cs) ∧ On base W0 L w' ∧ FA 34 16 [.code (bodyOf Tryz.f34)] [] .normal [(0, ptrV ((T i).b 1)), (1, .pointer none), (2, iV i), (3, .nilIface)] fr' ∧ FiW d C (hdV d.n FB cF) g e now s i frM := by
  have hl := ok.sl hi
  let ρ : Env := mE d C .nilIface g e [(13, now), (15, s), (16, i), (61, d.Fl i), (57, cF)] [(52, FB), (60, (T i).b 1)] []
  refine Walk.weaken (fun g' w' hd => ?_) (walkZ (frs := []) (callers := []) (cs := cs) o [] [] (fiCo (stOf fr)) rfl rfl (by kernel_rfl) (by kernel_rfl) (ρ := ρ) (hf.rel (.inl rfl) (mC sl5 o1 (lenA 51 52 57) o7 o4 ++ [(16, i64 (v 16))]) (by unfold mVC; rw [hl, hdV_pos (by omega)]; rfl) rfl) trivial (fun p hp => ?_) (fun p hp => ?_) (fun p hp => by cases hp) List.nodup_nil List.nodup_nil)
  · obtain ⟨ρ1, fr1, frs1, rfl, on1, Ag, f1, fs1⟩ := hd
    obtain ⟨frM, rfl, fM⟩ := fats_one fs1
    refine ⟨fr1, frM, rfl, ⟨on1.heap.sub fun r x e => e, on1.keeps, on1.le⟩, fa_agree Ag f1 (by kernel_rfl), ?_⟩
    have := fa_agree Ag fM (by kernel_rfl)
    unfold FiW mVC
    rw [hl, hdV_pos (by omega)]
    exact this
  · rcases List.mem_append.1 hp with hp | hp
    · exact ltB_ok (I := i) (N := d.n) rfl rfl hi p hp
    · obtain rfl := List.mem_singleton.1 hp
      show (d.Fl i == s) = true
      rw [hs]; exact beq_self_eq_true s
  · simp only [List.mem_cons, List.not_mem_nil, or_false] at hp
    rcases hp with rfl | rfl
    · exact old_ev (ok.F i hi) (el_ev rfl rfl (by omega)) rfl
    · exact vec_at R.vf hi (R.f i hi) rfl rfl rfl
/-- ended's block, as a piece wants it. -/
theorem preE_is {ρ : Env} {x : IE} (hve : L (0, 7) = some (EB, .vec 3 d.n (eL d.n E))) (hi : i < d.n) (hb : ρ.b 54 = EB) (hv : ρ.v 65 = .agg (eL d.n E).toArray) (h51 : ρ.i 51 = (d.n : Int)) (h16 : ρ.i 16 = (i : Int)) (h59 : ρ.i 59 = (d.n : Int)) (hx : x.ev ρ = E i) : PreL L ρ [((0, 7), preE x [])] := fun p hp => by
  obtain rfl := List.mem_singleton.1 hp
  refine ⟨.vec 3 d.n (eL d.n E), by rw [hve]; show _ = some (ρ.b 54, _); rw [hb], rfl, hv, fun inf hinf => ?_, fun q hq => ?_, ?_⟩
  · rw [size3 inf hinf, eL_length]
    show d.n = (ρ.i 51).toNat * 1
    rw [h51]
    omega
  · obtain rfl := List.mem_singleton.1 hq
    show (eL d.n E)[((((ρ.i 16).toNat : Nat) : Int)).toNat]? = some (iV (x.ev ρ))
    rw [h16, hx]
    exact eL_get hi
  · show (ρ.i 59).toNat = d.n
    rw [h59]
    rfl
theorem eL_at {ρ : Env} {bb ii : Nat} {x : AV} {dr : List Role} (hve : L (0, 7) = some (EB, .vec 3 d.n (eL d.n E))) (hd : (0, 7) ∉ dr) (hi : i < d.n) (hb : ρ.b bb = EB) (hii : ρ.i ii = (i : Int)) (he : x.ev ρ = iV (E i)) : MemO L dr base W0 ρ (at1 bb ii, x) := by
  refine .inl ⟨(0, 7), .vec 3 d.n (eL d.n E), ?_, hd, ?_⟩
  · rw [at1_ev hii, hb]
    exact hve
  · rw [at1_ev hii, he]
    exact eL_get hi
theorem fi_bk (ok : d.Ok base W0) (hi : i < d.n) (hve : L (0, 7) = some (EB, .vec 3 d.n (eL d.n E))) (o : On base W0 L w) (hf : CoRet fr) (hM : FiW d C f g (slV EB 0 d.n d.n) now s i frM) :
    Go1 base (G fr (frM :: cs)) w fun g' w' => ∃ fr' L', g' = G fr' cs ∧ On base W0 L' w' ∧ (∀ r : Role, r ≠ (0, 7) → L' r = L r) ∧ L' (0, 7) = some (EB, .vec 3 d.n (eL d.n (if E i = 0 then updE E i 1 else E))) ∧ FiAt d C f g (slV EB 0 d.n d.n) now s ((i + 1 : Nat) : Int) fr' := by
  have hn := ok.n
  by_cases h0 : E i = 0
  · let ρ : Env := mE d C f g .nilIface [(13, now), (15, s), (16, i), (62, E i), (59, d.n)] [(54, EB)] [(65, .agg (eL d.n E).toArray)]
    refine Walk.weaken (fun g' w' hd => ?_) (walkZ (frs := [frM]) (callers := [fiB (stOf frM)]) (mem := []) (cs := cs) o [((0, 7), preE (v 62) [])] [((0, 7), preE (v 62) [(.tn (v 16), i64 (.lit 1))])] (fiBkT (stOf fr) (stOf frM)) rfl rfl (by kernel_rfl) (by kernel_rfl) (ρ := ρ) (hf.rel (.inl rfl) [(8, TB)] rfl rfl) ⟨hM.rel (.inl rfl) (mC o0 o1 o6 o7 e5 ++ [(16, i64 (v 16)), (90, TB)]) rfl rfl, trivial⟩ (fun p hp => ?_) (fun p hp => by cases hp) (preE_is hve hi rfl rfl rfl rfl rfl rfl) (by simp) (by simp))
    · obtain ⟨ρ1, fr1, frs1, rfl, on1, Ag, f1, fs1⟩ := hd
      obtain rfl := fats_none fs1
      refine ⟨fr1, _, rfl, on1, fun r hr => relay_out (fun x hx => by
        obtain rfl := List.mem_singleton.1 hx
        exact hr.symm) (by simpa using hr), ?_, ?_⟩
      · show some (ρ1.b 54, Blk.vec 3 (ρ1.i 59).toNat (wrote ρ1 (listV (ρ1.v 65)) [(.tn (v 16), i64 (.lit 1))] ++ [])) = _
        rw [show ρ1.b 54 = EB from Ag.b 54 (by decide), show ρ1.i 59 = (d.n : Int) from Ag.i 59 (by decide), Ag.v, if_pos h0, List.append_nil]
        show some (EB, Blk.vec 3 d.n ((eL d.n E).set ((((ρ1.i 16).toNat : Nat) : Int)).toNat (iV 1))) = _
        rw [show ρ1.i 16 = (i : Int) from Ag.i 16 (by decide)]
        show some (EB, Blk.vec 3 d.n ((eL d.n E).set i (iV 1))) = _
        rw [eL_set hi]
      · have := fa_agree Ag f1 (by kernel_rfl)
        unfold FiAt
        rw [← inc (i := i) (by omega)]
        exact this
    · rcases List.mem_append.1 hp with hp | hp
      · exact ltB_ok (I := i) (N := d.n) rfl rfl hi p hp
      · obtain rfl := List.mem_singleton.1 hp
        show (E i == 0) = true
        rw [h0]; rfl
  · let ρ : Env := mE d C f g .nilIface [(13, now), (15, s), (16, i), (62, E i), (59, d.n)] [(54, EB)] []
    refine Walk.weaken (fun g' w' hd => ?_) (walkZ (frs := [frM]) (callers := [fiB (stOf frM)]) (cs := cs) o [] [] (fiBkF (stOf fr) (stOf frM)) rfl rfl (by kernel_rfl) (by kernel_rfl) (ρ := ρ) (hf.rel (.inl rfl) [(8, TB)] rfl rfl) ⟨hM.rel (.inl rfl) (mC o0 o1 o6 o7 e5 ++ [(16, i64 (v 16)), (90, TB)]) rfl rfl, trivial⟩ (fun p hp => ?_) (fun p hp => ?_) (fun p hp => by cases hp) List.nodup_nil List.nodup_nil)
    · obtain ⟨ρ1, fr1, frs1, rfl, on1, Ag, f1, fs1⟩ := hd
      obtain rfl := fats_none fs1
      refine ⟨fr1, L, rfl, ⟨on1.heap.sub fun r x e => e, on1.keeps, on1.le⟩, fun r hr => rfl, ?_, ?_⟩
      · rw [hve, if_neg h0]
      · have := fa_agree Ag f1 (by kernel_rfl)
        unfold FiAt
        rw [← inc (i := i) (by omega)]
        exact this
    · rcases List.mem_append.1 hp with hp | hp
      · exact ltB_ok (I := i) (N := d.n) rfl rfl hi p hp
      · obtain rfl := List.mem_singleton.1 hp
        show (E i == 0) = false
        exact beq_false_of_ne h0
    · obtain rfl := List.mem_singleton.1 hp
      exact eL_at hve (by simp) hi rfl rfl rfl
end
end Go.Proofs.YtmnahfonnljobaaGreatDoor
/-
  LimitOrder: the loop of fills; Advance. Conditions: none.
-/
set_option maxRecDepth 100000
set_option linter.unusedVariables false
set_option linter.unusedSimpArgs false
namespace Go.Proofs.YtmnahfonnljobaaGreatDoor
open Go.Proofs.YtmnahfonnljobaaGreatDoor.SX Go.Conc

def edV : St → Int
  | .w => 0
  | .f _ => 1
  | .l _ => 2
  | .a _ _ => 2
def St.full : St → Bool
  | .f _ => true
  | .a _ _ => true
  | _ => false
/-- Who has been filled: with its own number, in its turn. -/
structure FD (d : Dat) (s : Int) (i : Nat) (X : Nat → St) : Prop where
  val : ∀ j, j < d.n → ∀ x, X j = .f x → x = j
  done : ∀ j, j < d.n → (X j).full = true → d.Fl j < s ∨ (j < i ∧ d.Fl j = s)
theorem FD.next {d : Dat} {s : Int} {i : Nat} {X : Nat → St} (F : FD d s i X) : FD d s (i + 1) X := ⟨F.val, fun j hj h => (F.done j hj h).imp id fun h => ⟨by omega, h.2⟩⟩
theorem FD.over {d : Dat} {s : Int} {X : Nat → St} (F : FD d s d.n X) : FD d (s + 1) 0 X := ⟨F.val, fun j hj h => .inl (by rcases F.done j hj h with h | h <;> omega)⟩
section
variable {base : Nat} {W0 w : World} {L : Lay} {cs : List Frame} {fr frM : Frame} {d : Dat} {C i FB cF GB cG EB : Nat} {f g e : Value} {fs gs : List Value} {K : CK} {T : Nat → TM} {X : Nat → St} {E : Nat → Int} {now s : Int}
/-- Complete of one that has not been filled. -/
theorem co_any (S : Sys L K d.n T X now 0) (hi : i < d.n) (hx : (X i).full = false) (o : On base W0 L w) (hf : CoIn (T i) i fr) :
    Go1 base (G fr cs) w fun g' w' => ∃ fr' L' x, g' = G fr' cs ∧ On base W0 L' w' ∧ Sys L' K d.n T (updS X i x) now 0 ∧ Rest L L' i ∧ CoRet fr' ∧ x.full = true ∧ (∀ y, x = .f y → y = i) ∧ edV x = (if edV (X i) = 0 then 1 else edV (X i)) := by
  have hle := S.le
  have ht := S.tm i hi
  cases e : X i with
  | w =>
    rw [e] at ht
    refine Walk.weaken (fun g' w' hd => ?_) (co_open o (by omega) S.clk (S.sl i hi).1 ht hf)
    obtain ⟨fr1, L1, rfl, on1, t1, r1, f1⟩ := hd
    exact ⟨fr1, L1, .f i, rfl, on1, S.put hi r1 t1, r1, f1, rfl, fun y h => by cases h; rfl, rfl⟩
  | l b =>
    rw [e] at ht
    refine Walk.weaken (fun g' w' hd => ?_) (co_late o ht hf)
    obtain ⟨fr1, L1, rfl, on1, t1, r1, f1⟩ := hd
    exact ⟨fr1, L1, .a i b, rfl, on1, S.put hi r1 t1, r1, f1, rfl, fun y h => (by cases h), rfl⟩
  | f y => rw [e] at hx; cases hx
  | a y b => rw [e] at hx; cases hx
theorem fi_step (ok : d.Ok base W0) (hi : i < d.n) (R : Run L d K T X now FB cF GB cG EB fs gs E) (hE : ∀ j, j < d.n → E j = edV (X j)) (F : FD d s i X) (o : On base W0 L w) (hf : FiAt d K.C (hdV d.n FB cF) g (slV EB 0 d.n d.n) now s i fr) :
    Go1 base (G fr cs) w fun g' w' => ∃ fr' L' X' E', g' = G fr' cs ∧ On base W0 L' w' ∧ Run L' d K T X' now FB cF GB cG EB fs gs E' ∧ (∀ j, j < d.n → E' j = edV (X' j)) ∧ FD d s (i + 1) X' ∧ FiAt d K.C (hdV d.n FB cF) g (slV EB 0 d.n d.n) now s ((i + 1 : Nat) : Int) fr' := by
  by_cases hs : d.Fl i = s
  · have hx : (X i).full = false := by
      cases h : (X i).full with
      | false => rfl
      | true => rcases F.done i hi h with h | h <;> omega
    refine (Walk.trans (m := 0) (fun g' w' hd => ?_) (fi_co ok hi hs R o hf)).any
    obtain ⟨fr1, m1, rfl, on1, f1, h1⟩ := hd
    refine (Walk.trans (m := 0) (fun g' w' hd => ?_) (co_any R.sys hi hx on1 f1)).any
    obtain ⟨fr2, L2, x, rfl, on2, S2, r2, f2, hx1, hx2, hx3⟩ := hd
    have k0 : ∀ a, L2 (0, a) = L (0, a) := fun a => r2 0 a (.inr (.inl (by omega)))
    refine Walk.weaken (fun g' w' hd => ?_) (fi_bk (EB := EB) (E := E) ok hi ((k0 7).trans R.ve) on2 f2 h1)
    obtain ⟨fr3, L3, rfl, on3, k3, v3, f3⟩ := hd
    have ux : updS X i x i = x := if_pos rfl
    have un : ∀ {j}, j ≠ i → updS X i x j = X j := fun {j} h => if_neg h
    refine ⟨fr3, L3, updS X i x, _, rfl, on3, ⟨S2.keep fun r hr => k3 r (by rintro rfl; cases hr), R.D, ⟨R.vf.1, fun h => (k3 _ (by decide)).trans ((k0 5).trans (R.vf.2 h))⟩, ⟨R.vg.1, fun h => (k3 _ (by decide)).trans ((k0 6).trans (R.vg.2 h))⟩, R.f, R.g, v3⟩, fun j hj => ?_, ⟨fun j hj y h => ?_, fun j hj h => ?_⟩, f3⟩
    · by_cases ej : j = i
      · subst ej
        rw [ux, hx3, ← hE j hj]
        by_cases h0 : E j = 0
        · rw [if_pos h0, if_pos h0]
          exact if_pos rfl
        · rw [if_neg h0, if_neg h0]
      · rw [un ej, ← hE j hj]
        by_cases h0 : E i = 0
        · rw [if_pos h0]
          exact if_neg ej
        · rw [if_neg h0]
    · by_cases ej : j = i
      · subst ej
        rw [ux] at h
        exact hx2 y h
      · rw [un ej] at h
        exact F.val j hj y h
    · by_cases ej : j = i
      · subst ej
        exact .inr ⟨by omega, hs⟩
      · rw [un ej] at h
        exact (F.done j hj h).imp id fun h => ⟨by omega, h.2⟩
  · refine Walk.weaken (fun g' w' hd => ?_) (fi_no ok hi hs o hf)
    obtain ⟨fr1, rfl, on1, f1⟩ := hd
    exact ⟨fr1, L, X, E, rfl, on1, R, hE, F.next, f1⟩
theorem fi_loop (ok : d.Ok base W0) : ∀ (m i : Nat), i + m = d.n → ∀ {L : Lay} {w : World} {fr : Frame} {X : Nat → St} {E : Nat → Int}, Run L d K T X now FB cF GB cG EB fs gs E → (∀ j, j < d.n → E j = edV (X j)) → FD d s i X → On base W0 L w → FiAt d K.C (hdV d.n FB cF) g (slV EB 0 d.n d.n) now s i fr →
    Go1 base (G fr cs) w fun g' w' => ∃ fr' L' X' E', g' = G fr' cs ∧ On base W0 L' w' ∧ Run L' d K T X' now FB cF GB cG EB fs gs E' ∧ (∀ j, j < d.n → E' j = edV (X' j)) ∧ FD d s d.n X' ∧ FiAt d K.C (hdV d.n FB cF) g (slV EB 0 d.n d.n) now s d.n fr' := by
  intro m
  induction m with
  | zero =>
    intro i hi L w fr X E R hE F o hf
    obtain rfl : i = d.n := by omega
    exact Walk.stop ⟨fr, L, X, E, rfl, o, R, hE, F, hf⟩
  | succ m ih =>
    intro i hi L w fr X E R hE F o hf
    refine (Walk.trans (m := 0) (fun g' w' hd => ?_) (fi_step ok (by omega) R hE F o hf)).any
    obtain ⟨fr1, L1, X1, E1, rfl, on1, R1, hE1, F1, f1⟩ := hd
    exact ih (i + 1) (by omega) R1 hE1 F1 on1 f1
/-- A list's header at the end of its loop. -/
theorem Dat.Ok.z {d : Dat} {base : Nat} {W0 : World} (ok : d.Ok base W0) : ∃ z : Bool, (z = false ∧ d.hl = slV d.A d.o d.n d.c) ∨ (z = true ∧ d.hl = nilV) := by
  rcases ok.l with h | h
  · exact ⟨false, .inl ⟨rfl, h⟩⟩
  · exact ⟨true, .inr ⟨rfl, h.2⟩⟩
theorem enB_ok {ρ : Env} {z : Bool} {ii : Nat} (h : ρ.i ii = (d.n : Int)) (h51 : ρ.i 51 = (d.n : Int)) : ∀ p ∈ enB z ii, p.1.ev ρ = p.2 := by
  intro p hp
  cases z with
  | false =>
    obtain rfl := List.mem_singleton.1 hp
    show decide (ρ.i ii < (((ρ.i 51).toNat : Nat) : Int)) = false
    rw [h, h51]
    exact decide_eq_false (by omega)
  | true =>
    obtain rfl := List.mem_singleton.1 hp
    show decide (ρ.i ii < 0) = false
    rw [h]
    exact decide_eq_false (by omega)
theorem fi_end (ok : d.Ok base W0) {s : Nat} (hs : s < d.ns) (o : On base W0 L w) (hf : FiAt d C f g e now s d.n fr) :
    Go1 base (G fr cs) w fun g' w' => ∃ fr' frM, g' = G fr' (frM :: cs) ∧ On base W0 L w' ∧ AtIn false (m1000 (d.sp s)) fr' ∧ F6 adA6 (mVC d C f g e now s) frM := by
  have hl := ok.ss hs
  obtain ⟨z, hz⟩ := ok.z
  let ρ : Env := mE d C f g e [(13, now), (15, s), (16, d.n), (60, d.sp s)] [] []
  have es : (slz z).ev ρ = d.hl := slz_ev hz rfl rfl rfl rfl
  refine Walk.weaken (fun g' w' hd => ?_) (walkZ (frs := []) (callers := []) (cs := cs) o [] [] (fiEnd z (stOf fr)) rfl (by cases z <;> rfl) (by cases z <;> kernel_rfl) (by cases z <;> kernel_rfl) (ρ := ρ) (hf.rel (.inl rfl) (mC (slz z) st5 o6 o7 o4 ++ [(16, i64 (v 16))]) (by unfold mVC; rw [← es, hl]; rfl) rfl) trivial (fun p hp => ?_) (fun p hp => ?_) (fun p hp => by cases hp) List.nodup_nil List.nodup_nil)
  · obtain ⟨ρ1, fr1, frs1, rfl, on1, Ag, f1, fs1⟩ := hd
    obtain ⟨frM, rfl, fM⟩ := fats_one fs1
    refine ⟨fr1, frM, rfl, ⟨on1.heap.sub fun r x e => e, on1.keeps, on1.le⟩, fa_agree Ag f1 (by kernel_rfl), ?_⟩
    have := fa_agree Ag fM (by cases z <;> kernel_rfl)
    unfold mVC
    rw [← es, hl]
    exact this
  · rcases List.mem_append.1 hp with hp | hp
    · exact enB_ok (d := d) rfl rfl p hp
    · exact ltB_ok (I := s) (N := d.ns) rfl rfl hs p hp
  · obtain rfl := List.mem_singleton.1 hp
    exact old_ev (ok.sp s hs) (brk_ev rfl rfl) rfl
theorem ad_go {x : Int} (o : On base W0 L w) (hf : AtRet x fr) (hM : F6 adA6 (mVC d C f g e now s) frM) (hb : 0 ≤ now ∧ now ≤ 1000 ∧ 0 ≤ x ∧ x < 20) :
    Go1 base (G fr (frM :: cs)) w fun g' w' => ∃ fr' frM', g' = G fr' (frM' :: cs) ∧ On base W0 L w' ∧ AdIn C x fr' ∧ F6 adW6 (mVC d C f g e (now + x) s) frM' := by
  let ρ : Env := mE d C f g e [(13, now), (15, s), (9, x)] [] []
  refine Walk.weaken (fun g' w' hd => ?_) (walkZ (frs := [frM]) (callers := [fr6 adA6 (mC o0 o1 o6 o7 o4) (stOf frM)]) (cs := cs) o [] [] (adGo (stOf fr) (stOf frM)) rfl rfl (by kernel_rfl) (by kernel_rfl) (ρ := ρ) (hf.rel (.inl rfl) [(4, i64 (v 9))] rfl rfl) ⟨hM.rel (.inl rfl) (mC o0 o1 o6 o7 o4) rfl rfl, trivial⟩ (fun p hp => by cases hp) (fun p hp => by cases hp) (fun p hp => by cases hp) List.nodup_nil List.nodup_nil)
  obtain ⟨ρ1, fr1, frs1, rfl, on1, Ag, f1, fs1⟩ := hd
  obtain ⟨frM', rfl, fM⟩ := fats_one fs1
  refine ⟨fr1, frM', rfl, ⟨on1.heap.sub fun r x e => e, on1.keeps, on1.le⟩, fa_agree Ag f1 (by kernel_rfl), ?_⟩
  have h : F6 adW6 [(0, d.hl), (1, d.hs), (4, .bool false), (5, ptrV C), (6, f), (7, g), (13, iV (iop .add .i64 now x)), (14, e), (15, iV s), (17, iV x)] frM' := fa_agree Ag fM (by kernel_rfl)
  have e1 : iop .add .i64 now x = now + x := by
    show IntKind.wrap .i64 (now + x) = _
    rw [IntWalk.i64_in _ (by omega)]
  rw [e1] at h
  exact h.sub fun p hp => by
    unfold mVC at hp
    simp only [List.mem_cons, List.not_mem_nil, or_false] at hp ⊢
    rcases hp with h | h | h | h | h | h | h | h | h <;> simp [h]
abbrev LaAt (d : Dat) (C : Nat) (f g e : Value) (now s n late i : Int) (fr : Frame) : Prop := F6 laT (mVC d C f g e now s ++ [(18, iV n), (19, iV 0), (20, iV late), (21, iV i)]) fr
theorem ad_bk {x : Int} (o : On base W0 L w) (hf : AdRet x fr) (hM : F6 adW6 (mVC d C f g e now s) frM) :
    Go1 base (G fr (frM :: cs)) w fun g' w' => ∃ fr', g' = G fr' cs ∧ On base W0 L w' ∧ LaAt d C f g e now s x 0 0 fr' := by
  let ρ : Env := mE d C f g e [(13, now), (15, s), (70, x)] [] []
  refine Walk.weaken (fun g' w' hd => ?_) (walkZ (frs := [frM]) (callers := [fr6 adW6 (mC o0 o1 o6 o7 o4) (stOf frM)]) (cs := cs) o [] [] (adBk (stOf fr) (stOf frM)) rfl rfl (by kernel_rfl) (by kernel_rfl) (ρ := ρ) (hf.rel (.inl rfl) [(6, i64 (v 70)), (7, i64 (.lit 0))] rfl rfl) ⟨hM.rel (.inl rfl) (mC o0 o1 o6 o7 o4) rfl rfl, trivial⟩ (fun p hp => by cases hp) (fun p hp => by cases hp) (fun p hp => by cases hp) List.nodup_nil List.nodup_nil)
  obtain ⟨ρ1, fr1, frs1, rfl, on1, Ag, f1, fs1⟩ := hd
  obtain rfl := fats_none fs1
  exact ⟨fr1, rfl, ⟨on1.heap.sub fun r x e => e, on1.keeps, on1.le⟩, fa_agree Ag f1 (by kernel_rfl)⟩
end
end Go.Proofs.YtmnahfonnljobaaGreatDoor
/-
  LimitOrder: who is late; what each one tells; the loop of steps. Conditions: none.
-/
set_option maxRecDepth 100000
set_option linter.unusedVariables false
set_option linter.unusedSimpArgs false
namespace Go.Proofs.YtmnahfonnljobaaGreatDoor
open Go.Proofs.YtmnahfonnljobaaGreatDoor.SX Go.Conc

section
variable {base : Nat} {W0 w : World} {L : Lay} {cs : List Frame} {fr frM : Frame} {d : Dat} {C i FB cF GB cG EB : Nat} {f g e : Value} {fs gs : List Value} {K : CK} {T : Nat → TM} {X X' : Nat → St} {E : Nat → Int} {now s nn late : Int}
theorem cnt_succ : cnt (i + 1) T X now = cnt i T X now + if X i = .w ∧ (T i).D ≤ now then 1 else 0 := by
  unfold cnt
  rw [List.range_succ, List.filter_append, List.length_append]
  congr 1
  by_cases h : X i = .w ∧ (T i).D ≤ now
  · rw [if_pos h, List.filter_cons_of_pos (by simpa using h)]
    rfl
  · rw [if_neg h, List.filter_cons_of_neg (by simpa using h)]
    rfl
/-! ### who is late -/
theorem la_no (ok : d.Ok base W0) (hi : i < d.n) (hve : L (0, 7) = some (EB, .vec 3 d.n (eL d.n E))) (h0 : E i ≠ 0) (o : On base W0 L w) (hf : LaAt d C f g (slV EB 0 d.n d.n) now s nn late i fr) :
    Go1 base (G fr cs) w fun g' w' => ∃ fr', g' = G fr' cs ∧ On base W0 L w' ∧ LaAt d C f g (slV EB 0 d.n d.n) now s nn late ((i + 1 : Nat) : Int) fr' := by
  have hl := ok.sl hi
  have hn := ok.n
  let ρ : Env := mE d C f g .nilIface [(13, now), (15, s), (16, i), (62, E i), (59, d.n), (70, nn), (20, late)] [(54, EB)] []
  refine Walk.weaken (fun g' w' hd => ?_) (walkZ (frs := []) (callers := []) (cs := cs) o [] [] (laNo (stOf fr)) rfl rfl (by kernel_rfl) (by kernel_rfl) (ρ := ρ) (hf.rel (.inl rfl) (mC sl5 o1 o6 o7 e5 ++ lX (v 16)) (by unfold mVC; rw [hl]; rfl) rfl) trivial (fun p hp => ?_) (fun p hp => ?_) (fun p hp => by cases hp) List.nodup_nil List.nodup_nil)
  · obtain ⟨ρ1, fr1, frs1, rfl, on1, Ag, f1, fs1⟩ := hd
    obtain rfl := fats_none fs1
    refine ⟨fr1, rfl, ⟨on1.heap.sub fun r x e => e, on1.keeps, on1.le⟩, ?_⟩
    have := fa_agree Ag f1 (by kernel_rfl)
    unfold LaAt mVC
    rw [hl, ← inc (i := i) (by omega)]
    exact this
  · rcases List.mem_append.1 hp with hp | hp
    · exact ltB_ok (I := i) (N := d.n) rfl rfl hi p hp
    · obtain rfl := List.mem_singleton.1 hp
      show (E i == 0) = false
      exact beq_false_of_ne h0
  · obtain rfl := List.mem_singleton.1 hp
    exact eL_at hve (by simp) hi rfl rfl rfl
abbrev LaW (d : Dat) (C : Nat) (f g e : Value) (now s n late i : Int) (fr : Frame) : Prop := F6 laW (mVC d C f g e now s ++ [(18, iV n), (19, iV 0), (20, iV late), (21, iV i), (134, .bool true)]) fr
theorem la_at (ok : d.Ok base W0) (hi : i < d.n) (hve : L (0, 7) = some (EB, .vec 3 d.n (eL d.n E))) (h0 : E i = 0) (o : On base W0 L w) (hf : LaAt d C f g (slV EB 0 d.n d.n) now s nn late i fr) :
    Go1 base (G fr cs) w fun g' w' => ∃ fr' frM, g' = G fr' (frM :: cs) ∧ On base W0 L w' ∧ AtIn true (m1000 (d.D i)) fr' ∧ LaW d C f g (slV EB 0 d.n d.n) now s nn late i frM := by
  have hl := ok.sl hi
  have hn := ok.n
  let ρ : Env := mE d C f g .nilIface [(13, now), (15, s), (16, i), (60, d.D i), (59, d.n), (70, nn), (20, late)] [(54, EB)] []
  refine Walk.weaken (fun g' w' hd => ?_) (walkZ (frs := []) (callers := []) (cs := cs) o [] [] (laAt (stOf fr)) rfl rfl (by kernel_rfl) (by kernel_rfl) (ρ := ρ) (hf.rel (.inl rfl) (mC sl5 o1 o6 o7 e5 ++ lX (v 16)) (by unfold mVC; rw [hl]; rfl) rfl) trivial (ltB_ok (I := i) (N := d.n) rfl rfl hi) (fun p hp => ?_) (fun p hp => by cases hp) List.nodup_nil List.nodup_nil)
  · obtain ⟨ρ1, fr1, frs1, rfl, on1, Ag, f1, fs1⟩ := hd
    obtain ⟨frM, rfl, fM⟩ := fats_one fs1
    refine ⟨fr1, frM, rfl, ⟨on1.heap.sub fun r x e => e, on1.keeps, on1.le⟩, fa_agree Ag f1 (by kernel_rfl), ?_⟩
    have := fa_agree Ag fM (by kernel_rfl)
    unfold LaW mVC
    rw [hl]
    exact this
  · simp only [List.mem_cons, List.not_mem_nil, or_false] at hp
    rcases hp with rfl | rfl
    · exact eL_at hve (by simp) hi rfl rfl (by rw [h0]; rfl)
    · exact old_ev (ok.D i hi) (el_ev rfl rfl (by omega)) rfl
theorem la_bk (ok : d.Ok base W0) (hi : i < d.n) {x : Int} {k : Nat} (hk : k < 1000) (hve : L (0, 7) = some (EB, .vec 3 d.n (eL d.n E))) (h0 : E i = 0) (o : On base W0 L w) (hf : AtRet x fr) (hM : LaW d C f g (slV EB 0 d.n d.n) now s nn k i frM) :
    Go1 base (G fr (frM :: cs)) w fun g' w' => ∃ fr' L', g' = G fr' cs ∧ On base W0 L' w' ∧ (∀ r : Role, r ≠ (0, 7) → L' r = L r) ∧ L' (0, 7) = some (EB, .vec 3 d.n (eL d.n (if x ≤ now then updE E i 2 else E))) ∧ LaAt d C f g (slV EB 0 d.n d.n) now s nn ((k + if x ≤ now then 1 else 0 : Nat) : Int) ((i + 1 : Nat) : Int) fr' := by
  have hl := ok.sl hi
  have hn := ok.n
  by_cases hx : x ≤ now
  · let ρ : Env := mE d C f g .nilIface [(13, now), (15, s), (16, i), (9, x), (59, d.n), (70, nn), (20, k)] [(54, EB)] [(65, .agg (eL d.n E).toArray)]
    refine Walk.weaken (fun g' w' hd => ?_) (walkZ (frs := [frM]) (callers := [laB e5 (stOf frM)]) (mem := []) (cs := cs) o [((0, 7), preE (.lit 0) [])] [((0, 7), preE (.lit 0) [(.tn (v 16), i64 (.lit 2))])] (laBkT (stOf fr) (stOf frM)) rfl rfl (by kernel_rfl) (by kernel_rfl) (ρ := ρ) (hf.rel (.inl rfl) [(4, i64 (v 9))] rfl rfl) ⟨hM.rel (.inl rfl) (mC o0 o1 o6 o7 e5 ++ lX (v 16) ++ [(134, TB)]) rfl rfl, trivial⟩ (fun p hp => ?_) (fun p hp => by cases hp) (preE_is hve hi rfl rfl rfl rfl rfl h0.symm) (by simp) (by simp))
    · obtain ⟨ρ1, fr1, frs1, rfl, on1, Ag, f1, fs1⟩ := hd
      obtain rfl := fats_none fs1
      refine ⟨fr1, _, rfl, on1, fun r hr => relay_out (fun x hx => by
        obtain rfl := List.mem_singleton.1 hx
        exact hr.symm) (by simpa using hr), ?_, ?_⟩
      · show some (ρ1.b 54, Blk.vec 3 (ρ1.i 59).toNat (wrote ρ1 (listV (ρ1.v 65)) [(.tn (v 16), i64 (.lit 2))] ++ [])) = _
        rw [show ρ1.b 54 = EB from Ag.b 54 (by decide), show ρ1.i 59 = (d.n : Int) from Ag.i 59 (by decide), Ag.v, if_pos hx, List.append_nil]
        show some (EB, Blk.vec 3 d.n ((eL d.n E).set ((((ρ1.i 16).toNat : Nat) : Int)).toNat (iV 2))) = _
        rw [show ρ1.i 16 = (i : Int) from Ag.i 16 (by decide)]
        show some (EB, Blk.vec 3 d.n ((eL d.n E).set i (iV 2))) = _
        rw [eL_set hi]
      · have := fa_agree Ag f1 (by kernel_rfl)
        unfold LaAt
        rw [if_pos hx, ← inc (i := i) (by omega), ← inc (i := k) (by omega)]
        exact this
    · rcases List.mem_append.1 hp with hp | hp
      · exact ltB_ok (I := i) (N := d.n) rfl rfl hi p hp
      · obtain rfl := List.mem_singleton.1 hp
        show decide (x ≤ now) = true
        exact decide_eq_true hx
  · let ρ : Env := mE d C f g (slV EB 0 d.n d.n) [(13, now), (15, s), (16, i), (9, x), (59, d.n), (70, nn), (20, k)] [(54, EB)] []
    refine Walk.weaken (fun g' w' hd => ?_) (walkZ (frs := [frM]) (callers := [laB o4 (stOf frM)]) (mem := []) (cs := cs) o [] [] (laBkF (stOf fr) (stOf frM)) rfl rfl (by kernel_rfl) (by kernel_rfl) (ρ := ρ) (hf.rel (.inl rfl) [(4, i64 (v 9))] rfl rfl) ⟨hM.rel (.inl rfl) (mC o0 o1 o6 o7 o4 ++ lX (v 16) ++ [(134, TB)]) rfl rfl, trivial⟩ (fun p hp => ?_) (fun p hp => by cases hp) (fun p hp => by cases hp) List.nodup_nil List.nodup_nil)
    · obtain ⟨ρ1, fr1, frs1, rfl, on1, Ag, f1, fs1⟩ := hd
      obtain rfl := fats_none fs1
      refine ⟨fr1, L, rfl, ⟨on1.heap.sub fun r x e => e, on1.keeps, on1.le⟩, fun r hr => rfl, ?_, ?_⟩
      · rw [hve, if_neg hx]
      · have := fa_agree Ag f1 (by kernel_rfl)
        unfold LaAt
        rw [if_neg hx, ← inc (i := i) (by omega)]
        exact this
    · obtain rfl := List.mem_singleton.1 hp
      show decide (x ≤ now) = false
      exact decide_eq_false hx
theorem la_loop (ok : d.Ok base W0) (hR : Rung d.n T now X X') : ∀ (m i : Nat), i + m = d.n → ∀ {L : Lay} {w : World} {fr : Frame} {E : Nat → Int}, Run L d K T X' now FB cF GB cG EB fs gs E → (∀ j, j < d.n → E j = if j < i then edV (X' j) else edV (X j)) → On base W0 L w → LaAt d C f g (slV EB 0 d.n d.n) now s nn (cnt i T X now : Nat) i fr →
    Go1 base (G fr cs) w fun g' w' => ∃ fr' L' E', g' = G fr' cs ∧ On base W0 L' w' ∧ Run L' d K T X' now FB cF GB cG EB fs gs E' ∧ (∀ j, j < d.n → E' j = edV (X' j)) ∧ LaAt d C f g (slV EB 0 d.n d.n) now s nn (cnt d.n T X now : Nat) d.n fr' := by
  intro m
  induction m with
  | zero =>
    intro i hi L w fr E R hE o hf
    obtain rfl : i = d.n := by omega
    exact Walk.stop ⟨fr, L, E, rfl, o, R, fun j hj => by rw [hE j hj, if_pos hj], hf⟩
  | succ m ih =>
    intro i hi L w fr E R hE o hf
    have hi' : i < d.n := by omega
    have hEi : E i = edV (X i) := by rw [hE i hi', if_neg (Nat.lt_irrefl i)]
    have hc : cnt i T X now < 1000 := by
      have := cnt_le (n := i) (T := T) (X := X) (now := now)
      have := ok.n
      omega
    have nxt : ∀ {E' : Nat → Int}, (∀ j, j ≠ i → E' j = E j) → E' i = edV (X' i) → ∀ j, j < d.n → E' j = if j < i + 1 then edV (X' j) else edV (X j) := fun {E'} h1 h2 j hj => by
      by_cases ej : j = i
      · subst ej
        rw [if_pos (by omega)]
        exact h2
      · rw [h1 j ej, hE j hj]
        by_cases hlt : j < i
        · rw [if_pos hlt, if_pos (by omega)]
        · rw [if_neg hlt, if_neg (by omega)]
    obtain ⟨r1, r2⟩ := hR i hi'
    by_cases h0 : E i = 0
    · have hw : X i = .w := by
        rw [h0] at hEi
        cases hx : X i <;> rw [hx] at hEi <;> first | rfl | cases hEi
      refine (Walk.trans (m := 0) (fun g' w' hd => ?_) (la_at ok hi' R.ve h0 o hf)).any
      obtain ⟨fr1, m1, rfl, on1, f1, h1⟩ := hd
      refine (Walk.trans (m := 0) (fun g' w' hd => ?_) (at_all true on1 f1)).any
      obtain ⟨fr2, rfl, on2, f2⟩ := hd
      refine (Walk.trans (m := 0) (fun g' w' hd => ?_) (la_bk ok hi' hc R.ve h0 on2 f2 h1)).any
      obtain ⟨fr3, L3, rfl, on3, k3, v3, f3⟩ := hd
      have eD : atV 40 (m1000 (d.D i)) = (T i).D := (R.D i hi').symm
      have R3 : Run L3 d K T X' now FB cF GB cG EB fs gs _ := ⟨R.sys.keep fun r hr => k3 r (by rintro rfl; cases hr), R.D, ⟨R.vf.1, fun h => (k3 _ (by decide)).trans (R.vf.2 h)⟩, ⟨R.vg.1, fun h => (k3 _ (by decide)).trans (R.vg.2 h)⟩, R.f, R.g, v3⟩
      have ec : cnt (i + 1) T X now = cnt i T X now + if atV 40 (m1000 (d.D i)) ≤ now then 1 else 0 := by
        rw [cnt_succ, eD]
        simp [hw]
      refine ih (i + 1) (by omega) R3 (nxt (fun j hj => ?_) ?_) on3 (by rw [ec]; exact f3)
      · show (if atV 40 (m1000 (d.D i)) ≤ now then updE E i 2 else E) j = E j
        split
        · exact if_neg hj
        · rfl
      · show (if atV 40 (m1000 (d.D i)) ≤ now then updE E i 2 else E) i = _
        rw [eD]
        by_cases hle : (T i).D ≤ now
        · rw [if_pos hle]
          obtain ⟨b, hb⟩ := r1 ⟨hw, hle⟩
          rw [hb]
          exact if_pos rfl
        · rw [if_neg hle, h0, r2 (fun h => hle h.2), hw]
          rfl
    · have hw : X i ≠ .w := fun h => by rw [h] at hEi; exact h0 hEi
      refine (Walk.trans (m := 0) (fun g' w' hd => ?_) (la_no ok hi' R.ve h0 o hf)).any
      obtain ⟨fr1, rfl, on1, f1⟩ := hd
      have ec : cnt (i + 1) T X now = cnt i T X now := by
        rw [cnt_succ, if_neg fun h => hw h.1]
        rfl
      refine ih (i + 1) (by omega) R (nxt (fun j hj => rfl) ?_) on1 (by rw [ec]; exact f1)
      rw [hEi, r2 fun h => hw h.1]
abbrev PeAt (d : Dat) (C : Nat) (f g e : Value) (now s i : Int) (fr : Frame) : Prop := F6 peT (mVC d C f g e now s ++ [(22, iV i)]) fr
theorem la_end (ok : d.Ok base W0) (o : On base W0 L w) (hf : LaAt d C f g e now s nn nn d.n fr) :
    Go1 base (G fr cs) w fun g' w' => ∃ fr', g' = G fr' cs ∧ On base W0 L w' ∧ PeAt d C f g e now s 0 fr' := by
  obtain ⟨z, hz⟩ := ok.z
  let ρ : Env := mE d C f g e [(13, now), (15, s), (16, d.n), (70, nn), (20, nn)] [] []
  have es : (slz z).ev ρ = d.hl := slz_ev hz rfl rfl rfl rfl
  refine Walk.weaken (fun g' w' hd => ?_) (walkZ (frs := []) (callers := []) (mem := []) (cs := cs) o [] [] (laEnd z (stOf fr)) rfl rfl (by cases z <;> kernel_rfl) (by cases z <;> kernel_rfl) (ρ := ρ) (hf.rel (.inl rfl) (mC (slz z) o1 o6 o7 o4 ++ lX (v 16)) (by unfold mVC; rw [← es]; rfl) rfl) trivial (fun p hp => ?_) (fun p hp => by cases hp) (fun p hp => by cases hp) List.nodup_nil List.nodup_nil)
  · obtain ⟨ρ1, fr1, frs1, rfl, on1, Ag, f1, fs1⟩ := hd
    obtain rfl := fats_none fs1
    refine ⟨fr1, rfl, ⟨on1.heap.sub fun r x e => e, on1.keeps, on1.le⟩, ?_⟩
    have := fa_agree Ag f1 (by cases z <;> kernel_rfl)
    unfold PeAt mVC
    rw [← es]
    exact this
  · rcases List.mem_append.1 hp with hp | hp
    · exact enB_ok (d := d) rfl rfl p hp
    · obtain rfl := List.mem_singleton.1 hp
      show (nn != nn) = false
      simp
/-! ### what each one tells -/
abbrev PeW (d : Dat) (C : Nat) (f g e : Value) (now s i : Int) (fr : Frame) : Prop := F6 peW (mVC d C f g e now s ++ [(22, iV i)]) fr
theorem pe_go (ok : d.Ok base W0) (hi : i < d.n) (R : Run L d K T X now FB cF GB cG EB fs gs E) (o : On base W0 L w) (hf : PeAt d C f (hdV d.n GB cG) e now s i fr) :
    Go1 base (G fr cs) w fun g' w' => ∃ fr' frM, g' = G fr' (frM :: cs) ∧ On base W0 L w' ∧ PkIn ((T i).b 8) fr' ∧ PeW d C f (hdV d.n GB cG) e now s i frM := by
  have hl := ok.sl hi
  let ρ : Env := mE d C f .nilIface e [(13, now), (15, s), (16, i), (58, cG)] [(53, GB), (71, (T i).b 8)] []
  refine Walk.weaken (fun g' w' hd => ?_) (walkZ (frs := []) (callers := []) (cs := cs) o [] [] (peGo (stOf fr)) rfl rfl (by kernel_rfl) (by kernel_rfl) (ρ := ρ) (hf.rel (.inl rfl) (mC sl5 o1 o6 (lenA 51 53 58) o4 ++ [(22, i64 (v 16))]) (by unfold mVC; rw [hl, hdV_pos (by omega)]; rfl) rfl) trivial (ltB_ok (I := i) (N := d.n) rfl rfl hi) (fun p hp => ?_) (fun p hp => by cases hp) List.nodup_nil List.nodup_nil)
  · obtain ⟨ρ1, fr1, frs1, rfl, on1, Ag, f1, fs1⟩ := hd
    obtain ⟨frM, rfl, fM⟩ := fats_one fs1
    refine ⟨fr1, frM, rfl, ⟨on1.heap.sub fun r x e => e, on1.keeps, on1.le⟩, fa_agree Ag f1 (by kernel_rfl), ?_⟩
    have := fa_agree Ag fM (by kernel_rfl)
    unfold PeW mVC
    rw [hl, hdV_pos (by omega)]
    exact this
  · obtain rfl := List.mem_singleton.1 hp
    exact vec_at R.vg hi (R.g i hi) rfl rfl rfl
/-- From Peek's return to the next one. -/
theorem pe_bk (ok : d.Ok base W0) (h0 : OldAt base W0 0 0 (.iface 220 (.agg #[.pointer (some ⟨3, 31, none⟩)]))) (hi : i < d.n) (hve : L (0, 7) = some (EB, .vec 3 d.n (eL d.n E))) (hE : E i = edV (X i)) (hv : ∀ x, X i = .f x → x = i) (o : On base W0 L w) (hf : PkRet (X i) fr) (hM : PeW d C f g (slV EB 0 d.n d.n) now s i frM) :
    Go1 base (G fr (frM :: cs)) w fun g' w' => ∃ fr', g' = G fr' cs ∧ On base W0 L w' ∧ PeAt d C f g (slV EB 0 d.n d.n) now s ((i + 1 : Nat) : Int) fr' := by
  have hn := ok.n
  let ρ : Env := mE d C f g .nilIface [(13, now), (15, s), (16, i), (59, d.n)] [(54, EB)] []
  have hMr : FrRel Tryz.prog ρ (peB (stOf frM)) frM := hM.rel (.inl rfl) (mC o0 o1 o6 o7 e5 ++ [(22, i64 (v 16))]) rfl rfl
  have fin : ∀ {g' : Goroutine} {w' : World}, (∃ ρ' fr' frs', g' = G fr' (frs' ++ cs) ∧ On base W0 (relay L (([] : List (Role × Nat × ABlk)).map (·.1)) (postL ρ' [])) w' ∧ Agree (Below 100) ρ ρ' ∧ FA 6 208 peT [] .normal ((lvC ++ [22]).zip (AV.evs ρ' (mCv o0 o1 o6 o7 e5 ++ [i16]))) fr' ∧ FAts ρ' noL [] frs') → ∃ fr', g' = G fr' cs ∧ On base W0 L w' ∧ PeAt d C f g (slV EB 0 d.n d.n) now s ((i + 1 : Nat) : Int) fr' := fun {g' w'} hd => by
    obtain ⟨ρ1, fr1, frs1, rfl, on1, Ag, f1, fs1⟩ := hd
    obtain rfl := fats_none fs1
    refine ⟨fr1, rfl, ⟨on1.heap.sub fun r x e => e, on1.keeps, on1.le⟩, ?_⟩
    have := fa_agree Ag f1 (by kernel_rfl)
    unfold PeAt
    rw [← inc (i := i) (by omega)]
    exact this
  have lateC : ∀ b, X i = .l b ∨ (∃ y, X i = .a y b) → Go1 base (G fr (frM :: cs)) w fun g' w' => ∃ fr', g' = G fr' cs ∧ On base W0 L w' ∧ PeAt d C f g (slV EB 0 d.n d.n) now s ((i + 1 : Nat) : Int) fr' := by
    intro b hX
    have hE2 : E i = 2 := by rcases hX with h | ⟨y, h⟩ <;> (rw [hE, h]; rfl)
    have hf' : FA 24 27 [.code .ret] [] .normal [(4, iV 0), (5, ltV b), (6, .bool true)] fr := by rcases hX with h | ⟨y, h⟩ <;> (rw [h] at hf; exact hf)
    let ρ2 : Env := mE d C f g .nilIface [(13, now), (15, s), (16, i), (59, d.n)] [(54, EB), (80, b)] []
    refine (Walk.trans (m := 0) (fun g' w' hd => ?_) (walkZ (frs := [frM]) (callers := [peB (stOf frM)]) (cs := cs) o [] [] (pkLb (stOf fr) (stOf frM)) rfl rfl (by kernel_rfl) (by kernel_rfl) (ρ := ρ2) (hf'.rel (.inl rfl) [(4, i64 (.lit 0)), (5, ltE 80), (6, TB)] rfl rfl) ⟨hM.rel (.inl rfl) (mC o0 o1 o6 o7 e5 ++ [(22, i64 (v 16))]) rfl rfl, trivial⟩ (ltB_ok (I := i) (N := d.n) rfl rfl hi) (fun p hp => ?_) (fun p hp => by cases hp) List.nodup_nil List.nodup_nil)).any
    · obtain ⟨ρ1, fr1, frs1, rfl, on1, Ag, f1, fs1⟩ := hd
      obtain ⟨frM1, rfl, fM⟩ := fats_one fs1
      have g1 : FA 13 10 [.code (bodyOf Tryz.f13)] [] .normal [(0, ltV b)] fr1 := fa_agree Ag f1 (by kernel_rfl)
      have gM : F6 peC (mVC d C f g (slV EB 0 d.n d.n) now s ++ [(22, iV i), (195, .bool false), (201, .bool true)]) frM1 := fa_agree Ag fM (by kernel_rfl)
      refine (Walk.trans (m := 0) (fun g' w' hd => ?_) (cl_all (L := L) h0 ⟨on1.heap.sub fun r x e => e, on1.keeps, on1.le⟩ g1)).any
      obtain ⟨fr2, rfl, on2, f2⟩ := hd
      let ρ3 : Env := mE d C f g (slV EB 0 d.n d.n) [(13, now), (15, s), (16, i)] [] []
      refine Walk.weaken (fun g' w' hd => ?_) (walkZ (frs := [frM1]) (callers := [peCf (stOf frM1)]) (bs := []) (mem := []) (cs := cs) on2 [] [] (pkCb (stOf fr2) (stOf frM1)) rfl rfl (by kernel_rfl) noO (ρ := ρ3) (f2.rel (.inl rfl) [(2, i64 (.lit 21))] rfl rfl) ⟨gM.rel (.inl rfl) (mC o0 o1 o6 o7 o4 ++ [(22, i64 (v 16)), (195, FB), (201, TB)]) rfl rfl, trivial⟩ (fun p hp => by cases hp) (fun p hp => by cases hp) (fun p hp => by cases hp) List.nodup_nil List.nodup_nil)
      obtain ⟨ρ4, fr4, frs4, rfl, on4, Ag4, f4, fs4⟩ := hd
      obtain rfl := fats_none fs4
      refine ⟨fr4, rfl, ⟨on4.heap.sub fun r x e => e, on4.keeps, on4.le⟩, ?_⟩
      have := fa_agree Ag4 f4 (by kernel_rfl)
      unfold PeAt
      rw [← inc (i := i) (by omega)]
      exact this
    · obtain rfl := List.mem_singleton.1 hp
      exact eL_at hve (by simp) hi rfl rfl (by rw [hE2]; rfl)
  cases hX : X i with
  | w =>
    rw [hX] at hf
    refine Walk.weaken (fun g' w' hd => fin hd) (walkZ (frs := [frM]) (callers := [peB (stOf frM)]) (cs := cs) o [] [] (pkWb (stOf fr) (stOf frM)) rfl rfl (by kernel_rfl) (by kernel_rfl) (ρ := ρ) (hf.rel (.inl rfl) [(4, i64 (.lit 0)), (5, .nilIface), (6, FB)] rfl rfl) ⟨hMr, trivial⟩ (ltB_ok (I := i) (N := d.n) rfl rfl hi) (fun p hp => ?_) (fun p hp => by cases hp) List.nodup_nil List.nodup_nil)
    obtain rfl := List.mem_singleton.1 hp
    exact eL_at hve (by simp) hi rfl rfl (by rw [hE, hX]; rfl)
  | f y =>
    rw [hX, hv y hX] at hf
    refine Walk.weaken (fun g' w' hd => fin hd) (walkZ (frs := [frM]) (callers := [peB (stOf frM)]) (cs := cs) o [] [] (pkFb (stOf fr) (stOf frM)) rfl rfl (by kernel_rfl) (by kernel_rfl) (ρ := ρ) (hf.rel (.inl rfl) [(4, i64 (v 16)), (5, .nilIface), (6, TB)] rfl rfl) ⟨hMr, trivial⟩ (fun p hp => ?_) (fun p hp => ?_) (fun p hp => by cases hp) List.nodup_nil List.nodup_nil)
    · rcases List.mem_append.1 hp with hp | hp
      · exact ltB_ok (I := i) (N := d.n) rfl rfl hi p hp
      · obtain rfl := List.mem_singleton.1 hp
        show ((i : Int) != (i : Int)) = false
        simp
    · obtain rfl := List.mem_singleton.1 hp
      exact eL_at hve (by simp) hi rfl rfl (by rw [hE, hX]; rfl)
  | l b => exact lateC b (.inl hX)
  | a y b => exact lateC b (.inr ⟨y, hX⟩)
theorem pe_loop (ok : d.Ok base W0) (h0 : OldAt base W0 0 0 (.iface 220 (.agg #[.pointer (some ⟨3, 31, none⟩)]))) (R : Run L d K T X now FB cF GB cG EB fs gs E) (hE : ∀ j, j < d.n → E j = edV (X j)) (hv : ∀ j, j < d.n → ∀ x, X j = .f x → x = j) : ∀ (m i : Nat), i + m = d.n → ∀ {w : World} {fr : Frame}, On base W0 L w → PeAt d C f (hdV d.n GB cG) (slV EB 0 d.n d.n) now s i fr →
    Go1 base (G fr cs) w fun g' w' => ∃ fr', g' = G fr' cs ∧ On base W0 L w' ∧ PeAt d C f (hdV d.n GB cG) (slV EB 0 d.n d.n) now s d.n fr' := by
  intro m
  induction m with
  | zero =>
    intro i hi w fr o hf
    obtain rfl : i = d.n := by omega
    exact Walk.stop ⟨fr, rfl, o, hf⟩
  | succ m ih =>
    intro i hi w fr o hf
    have hi' : i < d.n := by omega
    refine (Walk.trans (m := 0) (fun g' w' hd => ?_) (pe_go ok hi' R o hf)).any
    obtain ⟨fr1, m1, rfl, on1, f1, h1⟩ := hd
    refine (Walk.trans (m := 0) (fun g' w' hd => ?_) (pk_all (R.sys.tm i hi') on1 f1)).any
    obtain ⟨fr2, rfl, on2, f2⟩ := hd
    refine (Walk.trans (m := 0) (fun g' w' hd => ?_) (pe_bk ok h0 hi' R.ve (hE i hi') (hv i hi') on2 f2 h1)).any
    obtain ⟨fr3, rfl, on3, f3⟩ := hd
    exact ih (i + 1) (by omega) on3 f3
theorem pe_end (ok : d.Ok base W0) {s : Nat} (hs : s < 1000) (o : On base W0 L w) (hf : PeAt d C f g e now s d.n fr) :
    Go1 base (G fr cs) w fun g' w' => ∃ fr', g' = G fr' cs ∧ On base W0 L w' ∧ OuAt d C f g e now ((s + 1 : Nat) : Int) fr' := by
  obtain ⟨z, hz⟩ := ok.z
  let ρ : Env := mE d C f g e [(13, now), (15, s), (16, d.n)] [] []
  have es : (slz z).ev ρ = d.hl := slz_ev hz rfl rfl rfl rfl
  refine Walk.weaken (fun g' w' hd => ?_) (walkZ (frs := []) (callers := []) (mem := []) (cs := cs) o [] [] (peEnd z (stOf fr)) rfl rfl (by cases z <;> kernel_rfl) (by cases z <;> kernel_rfl) (ρ := ρ) (hf.rel (.inl rfl) (mC (slz z) o1 o6 o7 o4 ++ [(22, i64 (v 16))]) (by unfold mVC; rw [← es]; rfl) rfl) trivial (enB_ok (d := d) rfl rfl) (fun p hp => by cases hp) (fun p hp => by cases hp) List.nodup_nil List.nodup_nil)
  obtain ⟨ρ1, fr1, frs1, rfl, on1, Ag, f1, fs1⟩ := hd
  obtain rfl := fats_none fs1
  refine ⟨fr1, rfl, ⟨on1.heap.sub fun r x e => e, on1.keeps, on1.le⟩, ?_⟩
  have := fa_agree Ag f1 (by cases z <;> kernel_rfl)
  unfold OuAt mVC
  rw [← es, ← inc (i := s) (by omega)]
  exact this
/-! ### the steps -/
theorem ou_step (ok : d.Ok base W0) (h0 : OldAt base W0 0 0 (.iface 220 (.agg #[.pointer (some ⟨3, 31, none⟩)]))) {s : Nat} (hs : s < d.ns) (R : Run L d K T X now FB cF GB cG EB fs gs E) (hE : ∀ j, j < d.n → E j = edV (X j)) (F : FD d s 0 X) (hb : 0 ≤ now ∧ now ≤ 20 * s) (o : On base W0 L w) (hf : OuAt d K.C (hdV d.n FB cF) (hdV d.n GB cG) (slV EB 0 d.n d.n) now s fr) :
    Go1 base (G fr cs) w fun g' w' => ∃ fr' L' X' E' now', g' = G fr' cs ∧ On base W0 L' w' ∧ Run L' d K T X' now' FB cF GB cG EB fs gs E' ∧ (∀ j, j < d.n → E' j = edV (X' j)) ∧ FD d ((s + 1 : Nat) : Int) 0 X' ∧ (0 ≤ now' ∧ now' ≤ 20 * ((s + 1 : Nat) : Int)) ∧ OuAt d K.C (hdV d.n FB cF) (hdV d.n GB cG) (slV EB 0 d.n d.n) now' ((s + 1 : Nat) : Int) fr' := by
  have hns := ok.ns
  refine (Walk.trans (m := 0) (fun g' w' hd => ?_) (ou_in ok hs o hf)).any
  obtain ⟨fr1, rfl, on1, f1⟩ := hd
  refine (Walk.trans (m := 0) (fun g' w' hd => ?_) (fi_loop ok _ 0 (Nat.zero_add _) R hE F on1 f1)).any
  obtain ⟨fr2, L2, X2, E2, rfl, on2, R2, hE2, F2, f2⟩ := hd
  refine (Walk.trans (m := 0) (fun g' w' hd => ?_) (fi_end ok hs on2 f2)).any
  obtain ⟨fr3, m3, rfl, on3, f3, h3⟩ := hd
  refine (Walk.trans (m := 0) (fun g' w' hd => ?_) (at_all false on3 f3)).any
  obtain ⟨fr4, rfl, on4, f4⟩ := hd
  obtain ⟨b0, b1⟩ := atV_lt (m := 20) (x := m1000 (d.sp s)) (by omega) (by omega)
  refine (Walk.trans (m := 0) (fun g' w' hd => ?_) (ad_go (x := atV 20 (m1000 (d.sp s))) on4 f4 h3 ⟨hb.1, by omega, b0, b1⟩)).any
  obtain ⟨fr5, m5, rfl, on5, f5, h5⟩ := hd
  refine (Walk.trans (m := 0) (fun g' w' hd => ?_) (ad_all hb.1 b0 (by omega) R2.sys on5 f5)).any
  obtain ⟨fr6, L6, X6, rfl, on6, k6, S6, G6, f6⟩ := hd
  refine (Walk.trans (m := 0) (fun g' w' hd => ?_) (ad_bk on6 f6 h5)).any
  obtain ⟨fr7, rfl, on7, f7⟩ := hd
  have R6 : Run L6 d K T X6 (now + atV 20 (m1000 (d.sp s))) FB cF GB cG EB fs gs E2 := ⟨S6, R2.D, ⟨R2.vf.1, fun h => (k6 5 (by omega)).trans (R2.vf.2 h)⟩, ⟨R2.vg.1, fun h => (k6 6 (by omega)).trans (R2.vg.2 h)⟩, R2.f, R2.g, (k6 7 (by omega)).trans R2.ve⟩
  refine (Walk.trans (m := 0) (fun g' w' hd => ?_) (la_loop ok G6 _ 0 (Nat.zero_add _) R6 (fun j hj => by rw [if_neg (Nat.not_lt_zero j)]; exact hE2 j hj) on7 f7)).any
  obtain ⟨fr8, L8, E8, rfl, on8, R8, hE8, f8⟩ := hd
  refine (Walk.trans (m := 0) (fun g' w' hd => ?_) (la_end ok on8 f8)).any
  obtain ⟨fr9, rfl, on9, f9⟩ := hd
  have F6' : FD d ((s : Int) + 1) 0 X6 := by
    have F3 := F2.over
    refine ⟨fun j hj x hx => ?_, fun j hj hx => ?_⟩
    · by_cases hc : X2 j = .w ∧ (T j).D ≤ now + atV 20 (m1000 (d.sp s))
      · obtain ⟨b, hb'⟩ := (G6 j hj).1 hc
        rw [hb'] at hx
        cases hx
      · rw [(G6 j hj).2 hc] at hx
        exact F3.val j hj x hx
    · by_cases hc : X2 j = .w ∧ (T j).D ≤ now + atV 20 (m1000 (d.sp s))
      · obtain ⟨b, hb'⟩ := (G6 j hj).1 hc
        rw [hb'] at hx
        cases hx
      · rw [(G6 j hj).2 hc] at hx
        exact F3.done j hj hx
  refine (Walk.trans (m := 0) (fun g' w' hd => ?_) (pe_loop ok h0 R8 hE8 F6'.val _ 0 (Nat.zero_add _) on9 f9)).any
  obtain ⟨fr10, rfl, on10, f10⟩ := hd
  refine Walk.weaken (fun g' w' hd => ?_) (pe_end ok (by omega) on10 f10)
  obtain ⟨fr11, rfl, on11, f11⟩ := hd
  exact ⟨fr11, L8, X6, E8, _, rfl, on11, R8, hE8, by rw [show ((s + 1 : Nat) : Int) = (s : Int) + 1 from by omega]; exact F6', ⟨by omega, by omega⟩, f11⟩
theorem ou_loop (ok : d.Ok base W0) (h0 : OldAt base W0 0 0 (.iface 220 (.agg #[.pointer (some ⟨3, 31, none⟩)]))) : ∀ (m s : Nat), s + m = d.ns → ∀ {L : Lay} {w : World} {fr : Frame} {X : Nat → St} {E : Nat → Int} {now : Int}, Run L d K T X now FB cF GB cG EB fs gs E → (∀ j, j < d.n → E j = edV (X j)) → FD d s 0 X → (0 ≤ now ∧ now ≤ 20 * (s : Int)) → On base W0 L w → OuAt d K.C (hdV d.n FB cF) (hdV d.n GB cG) (slV EB 0 d.n d.n) now s fr →
    Go1 base (G fr cs) w fun g' w' => ∃ fr' L' now', g' = G fr' cs ∧ On base W0 L' w' ∧ OuAt d K.C (hdV d.n FB cF) (hdV d.n GB cG) (slV EB 0 d.n d.n) now' d.ns fr' := by
  intro m
  induction m with
  | zero =>
    intro s hs L w fr X E now R hE F hb o hf
    obtain rfl : s = d.ns := by omega
    exact Walk.stop ⟨fr, L, now, rfl, o, hf⟩
  | succ m ih =>
    intro s hs L w fr X E now R hE F hb o hf
    refine (Walk.trans (m := 0) (fun g' w' hd => ?_) (ou_step ok h0 (by omega) R hE F hb o hf)).any
    obtain ⟨fr1, L1, X1, E1, now1, rfl, on1, R1, hE1, F1, hb1, f1⟩ := hd
    exact ih (s + 1) (by omega) R1 hE1 F1 hb1 on1 f1
end
end Go.Proofs.YtmnahfonnljobaaGreatDoor
