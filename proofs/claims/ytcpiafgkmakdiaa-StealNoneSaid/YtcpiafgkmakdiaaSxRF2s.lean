/-
  A loop over a function whose iterator is run up to a place: as closed data.
-/
import Derived.Test.YtcpiafgkmakdiaaSxRF
import Derived.Test.YtcpiafgkmakdiaaSxRens
set_option linter.unusedVariables false
namespace Go.Proofs.Ytcpiafgkmakdiaa.SX
noncomputable section

/-- The iterator, round by round, up to a place; each round lets it go on. -/
def iterUp? (P : Program) (O : Orc) (ext : Ext) (call : FuncId → List AV → AH → M (AE × AH)) (rnd : List AV → AH → M (Option Code × AH)) (y : Nat) (stop : ACfg → Bool) (n : Nat) : ACfg → M ACfg :=
  Nat.rec (fun _ => .error "range fuel") (fun _ ih c => match stop c with
    | true => .ok c
    | false => match yieldAt y c with
      | some args => match rnd args c.h with
        | .error e => .error e
        | .ok (j', h') => match isNone? j' with
          | false => .error "range it leaves"
          | true => match finishA c.cur (.bool (.lit true)) with
            | .ok fr => ih ⟨fr, [], h'⟩
            | .error e => .error e
      | none => match step? P O ext call c with
        | .ok (.inl c) => ih c
        | .ok (.inr _) => .error "range it ends"
        | .error e => .error e) n

/-- The frame stands at a test of that temporary. -/
def atTest (k : Nat) (c : ACfg) : Bool :=
  match c with
  | ⟨⟨_, _, _, .code (.cond (.tmp j) _ _) :: _, _, .run, .normal⟩, [], _⟩ => Nat.beq j k
  | _ => false

/-- From a test on to the next one; then only these blocks. -/
def lap? (P : Program) (O : Orc) (ext : Ext) (call : FuncId → List AV → AH → M (AE × AH)) (rnd : List AV → AH → M (Option Code × AH)) (y k n : Nat) (ks : List Nat) (c : ACfg) : M ACfg :=
  match step? P O ext call c with
  | .ok (.inl c) => match iterUp? P O ext call rnd y (atTest k) n c with
    | .ok ⟨cur, callers, ⟨hp, nb, lim⟩⟩ => .ok ⟨cur, callers, ⟨sieve hp ks, nb, lim⟩⟩
    | .error e => .error e
  | .ok (.inr _) => .error "lap it ends"
  | .error e => .error e
end
end Go.Proofs.Ytcpiafgkmakdiaa.SX
/-
  A call of a function that ranges over a function, whose iterator's way is proved by other means; a lap of the iterator. Conditions: none.
-/
set_option linter.unusedSectionVars false
set_option linter.unusedVariables false
set_option linter.unusedSimpArgs false
namespace Go.Proofs.Ytcpiafgkmakdiaa.SX
open Go.Conc

section
variable {K : Ctx} {main : Bool} {ext : Ext} {call : FuncId → List AV → AH → M (AE × AH)}
variable {D l : Nat} {cs : List Frame}

theorem iterUp_ok (H : Hyp K main ext call D l) {m nt : Nat} {fn : FuncId} {tmps : TT} {ps : Array Tmp} {asg body : Code} {y : Nat} {stop : ACfg → Bool} {F1 : Frame} {r0 : Loop} {tm : Array Value} (e1 : r0.fn = fn) (e2 : r0.tmps = tm) (e3 : r0.params = ps) (e4 : r0.assign = asg) (e5 : r0.body = body) (hf : ∃ f, K.P.funcs[fn]? = some f) :
    ∀ {n : Nat} {c c' : ACfg}, iterUp? K.P K.O ext call (round? K.P K.O ext call m fn nt tmps ps asg body) y stop n c = .ok c' →
    ∀ {U : Nat → Prop} {ρ : Env} {w : World} {g : Goroutine}, CIds (K.less D l) U c → tmps.In U → Gam (K.less D l) ρ c (F1 :: cs) g w → TmpR ρ nt tmps tm → ρ.v y = yieldV l → ρ.bt = (some l, []) → Lp w D l (stL r0 none) →
    Walk K.P main (DK K) (fun g' w' => ∃ ρ', Agree U ρ ρ' ∧ Keeps K.own w w' ∧ c.h.nb ≤ c'.h.nb ∧ CIds (K.less D l) (plus U c.h.nb c'.h.nb) c' ∧ Gam (K.less D l) ρ' c' (F1 :: cs) g' w' ∧ Lp w' D l (stL r0 none)) 0 g w := by
  have Gd' := less_good (D := D) (l := l) H.gd
  have F' : (K.less D l).Facts := ⟨H.facts.fns, H.facts.ext, H.facts.mixed⟩
  intro n
  induction n with
  | zero => intro c c' he; cases he
  | succ n ih =>
    intro c c' he U ρ w g I ht Γ T hy hbt
    have he' : (match stop c with
      | true => .ok c
      | false => match yieldAt y c with
        | some args => match round? K.P K.O ext call m fn nt tmps ps asg body args c.h with
          | .error e => .error e
          | .ok (j', h') => match isNone? j' with
            | false => .error "range it leaves"
            | true => match finishA c.cur (.bool (.lit true)) with
              | .ok fr => iterUp? K.P K.O ext call (round? K.P K.O ext call m fn nt tmps ps asg body) y stop n ⟨fr, [], h'⟩
              | .error e => .error e
        | none => match step? K.P K.O ext call c with
          | .ok (.inl c) => iterUp? K.P K.O ext call (round? K.P K.O ext call m fn nt tmps ps asg body) y stop n c
          | .ok (.inr _) => .error "range it ends"
          | .error e => .error e : M ACfg) = .ok c' := he
    intro L
    split at he'
    · cases he'
      exact Walk.stop ⟨ρ, Agree.refl _ _, Keeps.refl _ _, Nat.le_refl _, I.congr (plus_same U _), Γ, L⟩
    split at he'
    · rename_i args hya
      split at he'
      · cases he'
      rename_i j' h' hrd
      split at he'
      · cases he'
      rename_i hjn
      obtain rfl : j' = none := by
        cases j' with
        | none => rfl
        | some _ => cases hjn
      split at he'
      rotate_left
      · cases he'
      rename_i fr hfin
      obtain ⟨fnI, ntI, tI, ops, i, rest, k, ds, h, o, cl, x, rfl, ho, hg, hop, hcl, hx, rfl⟩ := yieldAt_ok hya
      have hlen := round_len hrd
      obtain ⟨R, tmI, frs, TI, hkI, hfI, hcs, rfl⟩ := gam_run.1 Γ
      cases frs with
      | cons a b => exact absurd hcs (by simp [FrRels])
      | nil =>
      have hp : bB ρ fnI .normal = mkF fnI .normal := rfl
      have hev : ∀ z, (aB ρ .normal tmI ds).eval z = (evalA tI z).ev ρ := fun z => evalA_ev TI _ z
      have hxv : (aB ρ .normal tmI ds).eval x = yieldV l := by
        rw [hev, hx]
        simp only [AV.ev]
        exact hy
      have hargs : cl.args.map (aB ρ .normal tmI ds).eval = (AV.evs ρ (cl.args.toList.map (evalA tI))).toArray := evs_args TI _ _
      have hsz : cl.args.size = (stL r0 none).params.size := by
        show _ = r0.params.size
        rw [e3, ← hlen]; simp
      have step1 : Walk K.P main (DK K) (fun g' w' => (∃ d, w' = drawnAt w d) ∧ g' = G (Frame.round l (stL r0 none).fn (roundTmps (stL r0 none) (AV.evs ρ (cl.args.toList.map (evalA tI))).toArray) (stL r0 none).assign (stL r0 none).body .normal) ((bB ρ fnI .normal).atR (aB ρ .normal tmI ds) (.inRegion ops (i :: rest) :: k) :: F1 :: cs)) 0
          (G ((bB ρ fnI .normal).atR (aB ρ .normal tmI ds) (.inRegion ops (i :: rest) :: k)) ([] ++ F1 :: cs)) w := by
        refine (Walk.one rfl fun d => ?_).any
        rw [List.nil_append, stF_yield (w := drawnAt w d) rfl rfl ho hg hop hcl hxv L.loop hsz, hargs]
        refine ⟨⟨Keeps.refl _ _, fun e he => ?_, fun _ _ _ _ x => x⟩, ⟨d, rfl⟩, rfl⟩
        have := mem_seen he
        simp only [List.mem_toArray, List.mem_cons, List.not_mem_nil, or_false] at this
        rw [this]
        exact H.gd.obj l false false H.hl
      refine (Walk.trans (m := 0) (fun g1 w1 hx1 => ?_) step1).any
      obtain ⟨⟨d, rfl⟩, rfl⟩ := hx1
      have ha : AV.Ins U (cl.args.toList.map (evalA tI)) := Ins_iff.2 fun a hm => by
        obtain ⟨z, _, rfl⟩ := List.mem_map.1 hm
        exact evalA_in I.cur.tmps z
      have W1 := round_ok (cs := F1 :: cs) (cF := (bB ρ fnI .normal).atR (aB ρ .normal tmI ds) (.inRegion ops (i :: rest) :: k)) H hrd I.ids ht ha (R.drawn d) T hf (L.drawn d) rfl e1 e2 e3 e4 e5 hbt
      refine (Walk.trans (m := 0) (fun g2 w2 hx2 => ?_) W1).any
      obtain ⟨ρ2, A2, kp2, gr2, R2, L2, rfl⟩ := hx2
      obtain ⟨fn', nt', t', ops', i', rest', k', ds', kind', eq1, rfl⟩ := finishA_ok hfin
      simp only [AFrame.mk.injEq, List.cons.injEq, Item.inRegion.injEq] at eq1
      obtain ⟨rfl, rfl, rfl, ⟨⟨rfl, rfl, rfl⟩, rfl⟩, rfl, _, rfl⟩ := eq1
      have haB : aB ρ2 .normal tmI ds = aB ρ .normal tmI ds := aB_agree A2 .normal tmI I.cur.defers
      obtain ⟨tm', e, h1'⟩ := put_tmps (v := .bool (.lit true)) (TI.agree A2 I.cur.tmps) (dB ρ2 .normal (ds.map (AD.ev ρ2))) ((ops[i]?).bind (·.dst))
      have Γ2 : Gam (K.less D l) ρ2 ⟨⟨fnI, ntI, putA ntI tI ((ops[i]?).bind (·.dst)) (.bool (.lit true)), .inRegion ops rest :: k, ds, .run, .normal⟩, [], h'⟩ (F1 :: cs) (G (((bB ρ fnI .normal).atR (aB ρ .normal tmI ds) (.inRegion ops (i :: rest) :: k)).finish (.bool true)) (F1 :: cs)) w2 :=
        gam_run.2 ⟨R2, tm', [], h1', .inl (.inl rfl), hfI, trivial, by
          have e2 : (aB ρ2 .normal tmI ds).put ((ops[i]?).bind (·.dst)) (.bool true) = ⟨tm', dB ρ2 .normal (ds.map (AD.ev ρ2))⟩ := e
          rw [Frame.finish_atR, ← haB, e2]
          rfl⟩
      have I2 : CIds (K.less D l) (plus U h.nb h'.nb) ⟨⟨fnI, ntI, putA ntI tI ((ops[i]?).bind (·.dst)) (.bool (.lit true)), .inRegion ops rest :: k, ds, .run, .normal⟩, [], h'⟩ :=
        ⟨⟨putA_in (TT.In.mono plus_sub I.cur.tmps) trivial TI.le, fun d hd => (I.cur.defers d hd).mono plus_sub, trivial⟩, (fun _ x => by cases x), gr2.ids⟩
      have W := ih he' I2 (TT.In.mono plus_sub ht) Γ2 (T.agree A2 ht) (by rw [A2.v]; exact hy) (by rw [A2.bt]; exact hbt) L2
      refine W.weaken fun g3 w3 hx3 => ?_
      obtain ⟨ρ3, A3, kp3, le3, I3, Γ3, L3⟩ := hx3
      exact ⟨ρ3, A2.trans A3 plus_sub, ((keeps_drawn _ w d).trans kp2).trans kp3, Nat.le_trans gr2.nb le3, I3.congr (plus_plus gr2.nb le3), Γ3, L3⟩
    · split at he'
      · rename_i c1 hs
        obtain ⟨N, L1⟩ := step_ok Gd' F' H.ext H.call hs
        refine (Walk.trans (m := 0) (fun g1 w1 nx => ?_) ((L1 U ρ (F1 :: cs) _ w I Γ).lax less_dk)).any
        obtain ⟨ρ1, A1, kp1, gr1, I1, Γ1⟩ := nx
        have W := ih he' I1 (TT.In.mono plus_sub ht) Γ1 (T.agree A1 ht) (by rw [A1.v]; exact hy) (by rw [A1.bt]; exact hbt) (L.kept kp1)
        refine W.weaken fun g2 w2 hx => ?_
        obtain ⟨ρ2, A2, kp2, le2, I2, Γ2, L2⟩ := hx
        exact ⟨ρ2, A1.trans A2 plus_sub, (less_keeps kp1).trans kp2, Nat.le_trans gr1.nb le2, I2.congr (plus_plus gr1.nb le2), Γ2, L2⟩
      · cases he'
      · cases he'

theorem lap_ok (H : Hyp K main ext call D l) {m nt : Nat} {fn : FuncId} {tmps : TT} {ps : Array Tmp} {asg body : Code} {y k : Nat} {ks : List Nat} {F1 : Frame} {r0 : Loop} {tm : Array Value} (e1 : r0.fn = fn) (e2 : r0.tmps = tm) (e3 : r0.params = ps) (e4 : r0.assign = asg) (e5 : r0.body = body) (hf : ∃ f, K.P.funcs[fn]? = some f)
    {n : Nat} {c c' : ACfg} (he : lap? K.P K.O ext call (round? K.P K.O ext call m fn nt tmps ps asg body) y k n ks c = .ok c')
    {U : Nat → Prop} {ρ : Env} {w : World} {g : Goroutine} (I : CIds (K.less D l) U c) (ht : tmps.In U) (Γ : Gam (K.less D l) ρ c (F1 :: cs) g w) (T : TmpR ρ nt tmps tm) (hy : ρ.v y = yieldV l) (hbt : ρ.bt = (some l, [])) (L : Lp w D l (stL r0 none)) :
    Walk K.P main (DK K) (fun g' w' => ∃ ρ', Agree U ρ ρ' ∧ Keeps K.own w w' ∧ c.h.nb ≤ c'.h.nb ∧ CIds (K.less D l) (plus U c.h.nb c'.h.nb) c' ∧ Gam (K.less D l) ρ' c' (F1 :: cs) g' w' ∧ Lp w' D l (stL r0 none)) 0 g w := by
  have Gd' := less_good (D := D) (l := l) H.gd
  have F' : (K.less D l).Facts := ⟨H.facts.fns, H.facts.ext, H.facts.mixed⟩
  unfold lap? at he
  split at he
  · rename_i c1 hs
    split at he
    · rename_i cur callers hp nb lim hu
      cases he
      obtain ⟨N, L1⟩ := step_ok Gd' F' H.ext H.call hs
      refine (Walk.trans (m := 0) (fun g1 w1 nx => ?_) ((L1 U ρ (F1 :: cs) _ w I Γ).lax less_dk)).any
      obtain ⟨ρ1, A1, kp1, gr1, I1, Γ1⟩ := nx
      have W := iterUp_ok (cs := cs) H e1 e2 e3 e4 e5 hf hu I1 (TT.In.mono plus_sub ht) Γ1 (T.agree A1 ht) (by rw [A1.v]; exact hy) (by rw [A1.bt]; exact hbt) (L.kept kp1)
      refine W.weaken fun g2 w2 hx => ?_
      obtain ⟨ρ2, A2, kp2, le2, I2, Γ2, L2⟩ := hx
      have I3 := I2.congr (plus_plus gr1.nb le2)
      obtain ⟨R2, fr, frs, h1, h2, h3⟩ := Γ2
      exact ⟨ρ2, A1.trans A2 plus_sub, (less_keeps kp1).trans kp2, Nat.le_trans gr1.nb le2, ⟨I3.cur, I3.callers, I3.ids.sieve⟩, ⟨R2.sieve I3.ids.nodup, fr, frs, h1, h2, h3⟩, L2⟩
    · cases he
  · cases he
  · cases he

/-- The iterator's way: from its entry in memory h1 to its return with the loop left by j, memory h2. -/
def IterTo (K : Ctx) (main : Bool) (ext : Ext) (call : FuncId → List AV → AH → M (AE × AH)) (y : Nat) (fn : FuncId) (nt : Nat) (tmps : TT) (ps : Array Tmp) (asg body : Code) (c : ACfg) (j : Option Code) (h2 : AH) : Prop :=
  ∀ {D l : Nat} {cs : List Frame}, Hyp K main ext call D l → ∀ {F1 : Frame} {r0 : Loop} {tm : Array Value}, r0.fn = fn → r0.tmps = tm → r0.params = ps → r0.assign = asg → r0.body = body → (∃ f, K.P.funcs[fn]? = some f) →
    ∀ {U : Nat → Prop} {ρ : Env} {w : World} {g : Goroutine}, CIds (K.less D l) U c → tmps.In U → Gam (K.less D l) ρ c (F1 :: cs) g w → TmpR ρ nt tmps tm → ρ.v y = yieldV l → ρ.bt = (some l, []) → Lp w D l (stL r0 none) →
    Walk K.P main (DK K) (fun g' w' => ∃ ρ' v, Agree U ρ ρ' ∧ Keeps K.own w w' ∧ Grows (K.less D l) U c.h h2 ∧ Rel (K.less D l) ρ' h2 w' ∧ Lp w' D l (stL r0 j) ∧ g' = G (F1.finish v) cs) 0 g w

theorem rf2_ok (Gd : K.Good) (F : K.Facts) (X : ExtOk K ext) (X' : ∀ D l, ExtOk (K.less D l) ext) (C : CallOk K main call) (C' : ∀ D l, CallOk (K.less D l) main call) {n y : Nat} {f : FuncId} {args : List AV} {h : AH} {r : AE × AH} (hO : K.O.noq y = true)
    {fr : AFrame} (hen : enterA K.P f args .normal = .ok fr) {fn : FuncId} {nt : Nat} {tmps : TT} {ds0 : List AD} {mode0 : AMode} {kind0 : CallKind} {callers0 : List AFrame} {h1 : AH} {g : Operand} {ps : Array Tmp} {asg body : Code} {k : List Item}
    (hu : upTo? K.P K.O ext call atRF n ⟨fr, [], h⟩ = .ok ⟨⟨fn, nt, tmps, .code (.rangeFunc g ps asg body) :: k, ds0, mode0, kind0⟩, callers0, h1⟩) {gf : FuncId} {caps : List AV} (hg : evalA tmps g = .func (.func gf) [] caps)
    (hc : (K.O.fns.contains gf && (tmps.noq y && (AV.noqs y caps && hpNoq y h1.hp))) = true) {rfr : AFrame} (hen2 : enterA K.P gf (.opq y :: caps) .normal = .ok rfr) {j : Option Code} {h2 : AH} (hit : IterTo K main ext call y fn nt tmps ps asg body ⟨rfr, [], h1⟩ j h2)
    (he : tail? K.P K.O ext call n y fn nt tmps k j h2 = .ok r) : Ends K main ⟨fr, [], h⟩ r 0 := by
  simp only [Bool.and_eq_true] at hc
  obtain ⟨hc1, hc2, hc3, hc4⟩ := hc
  obtain ⟨s1, b1, N1, L1⟩ := upTo_ok (main := main) Gd F X C hu
  unfold atRF at s1
  split at s1
  rotate_left
  · cases s1
  rename_i fnx ntx tx gx psx asgx bodyx kx hx hceq
  simp only [ACfg.mk.injEq, AFrame.mk.injEq, List.cons.injEq, Item.code.injEq, Code.rangeFunc.injEq] at hceq
  obtain ⟨⟨rfl, rfl, rfl, ⟨⟨rfl, rfl, rfl, rfl⟩, rfl⟩, rfl, rfl, rfl⟩, rfl, rfl⟩ := hceq
  unfold tail? at he
  split at he
  · cases he
  rename_i c5 hu5
  split at he
  · cases he
  rename_i v hres
  split at he
  rotate_left
  · cases he
  rename_i hnq
  cases he
  simp only [Bool.and_eq_true] at hnq
  intro U ρ cs g0 w I Γ
  refine (Walk.trans (m := 0) (fun g1 w1 nx => ?_) (L1 U ρ cs g0 w I Γ)).any
  obtain ⟨ρ1, A1, kp1, gr1, I1, Γ1⟩ := nx
  obtain ⟨R1, tm1, frs, T1, _, hf1, hcs, rfl⟩ := gam_run.1 Γ1
  cases frs with
  | cons a b => exact absurd hcs (by simp [FrRels])
  | nil =>
  have Dl : w1.heap.size ≠ w1.heap.size + 1 := by omega
  have H : Hyp K main ext call w1.heap.size (w1.heap.size + 1) := ⟨Gd, F, X' _ _, C' _ _, R1.room _ (Nat.le_refl _), R1.room _ (Nat.le_succ _), Dl⟩
  have hl : H = H := rfl
  generalize hlv : w1.heap.size + 1 = l at *
  generalize hDv : w1.heap.size = D at *
  have Gd' := less_good (D := D) (l := l) Gd
  have F' : (K.less D l).Facts := ⟨F.fns, F.ext, F.mixed⟩
  have hfn : fnOk K.P gf = true := List.all_eq_true.1 F.fns gf (by simpa using hc1)
  have hcap : (evalA tmps g).ev ρ1 = .func (.func gf) #[] (AV.evs ρ1 caps).toArray := by rw [hg]; simp only [AV.ev, AV.evs]
  have hev : Act.eval ⟨tm1, []⟩ g = .func (.func gf) #[] (AV.evs ρ1 caps).toArray := by rw [evalA_ev T1 [] g, hcap]
  have step1 : Walk K.P main (DK K) (fun g' w' => (∃ d, w' = loopW (drawnAt w1 d) (mkF fn .normal) ⟨tm1, []⟩ ps asg body) ∧ g' = G (Frame.enter K.P gf (#[yieldV l] ++ (AV.evs ρ1 caps).toArray) .normal) ((mkF fn .normal).atR ⟨tm1, [{ target := .collected D, args := #[] }]⟩ (.inRangeFunc l :: k) :: cs)) 0
      (G ((bB ρ1 fn .normal).atR (aB ρ1 .normal tm1 []) (.code (.rangeFunc g ps asg body) :: k)) ([] ++ cs)) w1 := by
    refine (Walk.one rfl fun d => ?_).any
    have e : stepG K.P main (G ((bB ρ1 fn .normal).atR (aB ρ1 .normal tm1 []) (.code (.rangeFunc g ps asg body) :: k)) ([] ++ cs)) (drawnAt w1 d) = .go (G (Frame.enter K.P gf (#[yieldV l] ++ (AV.evs ρ1 caps).toArray) .normal) ((mkF fn .normal).atR ⟨tm1, [{ target := .collected D, args := #[] }]⟩ (.inRangeFunc l :: k) :: cs)) (loopW (drawnAt w1 d) (mkF fn .normal) ⟨tm1, []⟩ ps asg body) #[] := by
      have := stF_range (P := K.P) (main := main) (b := mkF fn .normal) (a := ⟨tm1, []⟩) (k := k) (cs := cs) (w := drawnAt w1 d) (ps := ps) (asg := asg) (body := body) rfl rfl hev hfn
      rw [show (drawnAt w1 d).heap.size = D from hDv, hlv] at this
      exact this
    rw [e]
    exact ⟨⟨(loopW_keeps (R1.drawn d) _ _ _ _ _).2, (fun e he => by simp at he), loopW_stays _ _ _ _ _ _⟩, ⟨d, rfl⟩, rfl⟩
  refine (Walk.trans (m := 0) (fun g2 w2 hx => ?_) step1).any
  obtain ⟨⟨d, rfl⟩, rfl⟩ := hx
  have lk := loopW_keeps (R1.drawn d) (mkF fn .normal) ⟨tm1, []⟩ ps asg body
  have hsz := loopW_size (drawnAt w1 d) (mkF fn .normal) ⟨tm1, []⟩ ps asg body
  have hsz1 : (drawnAt w1 d).heap.size = D := hDv
  have L2 := loopW_lp (drawnAt w1 d) (mkF fn .normal) ⟨tm1, []⟩ ps asg body
  rw [hsz1, show D + 1 = l by omega] at L2
  generalize hw2 : loopW (drawnAt w1 d) (mkF fn .normal) ⟨tm1, []⟩ ps asg body = w2 at *
  have R2 : Rel (K.less D l) (ρ1.set y (yieldV l) (some l, [])) h1 w2 := ((R1.drawn d).less lk.1 (by omega) (by omega) (by omega) (by omega)).set (.inr ⟨hc4, hO⟩)
  have T2 : TmpR (ρ1.set y (yieldV l) (some l, [])) nt tmps tm1 := T1.set (.inr hc2)
  have hcin : AV.Ins (plus U h.nb h1.nb) caps := by
    have := evalA_in (U := plus U h.nb h1.nb) I1.cur.tmps g
    rw [hg] at this
    exact this.2
  obtain ⟨e1, e2, e3, e4, e5⟩ := enterA_ok hen2 (.inl rfl) (show AV.Ins (plus U h.nb h1.nb) (.opq y :: caps) from ⟨trivial, hcin⟩) (ρ := ρ1.set y (yieldV l) (some l, []))
  have hargs : (AV.evs (ρ1.set y (yieldV l) (some l, [])) (.opq y :: caps)).toArray = #[yieldV l] ++ (AV.evs ρ1 caps).toArray := by
    have h1 : (ρ1.set y (yieldV l) (some l, [])).v y = yieldV l := by simp [Env.set]
    simp only [AV.evs, AV.ev, h1, AV.evs_set caps (.inr hc3)]
    simp
  rw [hargs] at e1
  have W := hit (cs := cs) H (F1 := (mkF fn .normal).atR ⟨tm1, [{ target := .collected D, args := #[] }]⟩ (.inRangeFunc l :: k)) (r0 := loop0 (mkF fn .normal) ⟨tm1, []⟩ ps asg body D) rfl rfl rfl rfl rfl hf1
    (U := plus U h.nb h1.nb) (ρ := ρ1.set y (yieldV l) (some l, [])) (w := w2) ⟨e2, (fun _ x => by cases x), I1.ids.less⟩ I1.cur.tmps ⟨R2, _, [], e1, trivial, rfl⟩ T2 (by simp [Env.set]) rfl L2
  refine (Walk.trans (m := 0) (fun g3 w3 hx => ?_) W).any
  obtain ⟨ρ3, v3, A3, kp3, gr3, R3, L3, rfl⟩ := hx
  have step2 : Walk K.P main (DK K) (fun g' w' => (∃ d, w' = setW (drawnAt w3 d) l (.loop { stL (loop0 (mkF fn .normal) ⟨tm1, []⟩ ps asg body D) j with state := .exhausted })) ∧ g' = G ((mkF fn .normal).atR ⟨tm1, [{ target := .collected D, args := #[] }]⟩ (jumpItems j ++ k)) cs) 0
      (G (((mkF fn .normal).atR ⟨tm1, [{ target := .collected D, args := #[] }]⟩ (.inRangeFunc l :: k)).finish v3) cs) w3 := by
    refine (Walk.one rfl fun d => ?_).any
    have e : ((mkF fn .normal).atR ⟨tm1, [{ target := .collected D, args := #[] }]⟩ (.inRangeFunc l :: k)).finish v3 = (mkF fn .normal).atR ⟨tm1, [{ target := .collected D, args := #[] }]⟩ (.endRangeFunc l :: k) := rfl
    rw [e, stF_end (w := drawnAt w3 d) L3.loop (by cases j <;> (intro x; cases x))]
    refine ⟨dk_setW Gd H.hl L3.loop trivial, ⟨d, rfl⟩, ?_⟩
    rw [jump_items]
    rfl
  refine (Walk.trans (m := 0) (fun g4 w4 hx => ?_) step2).any
  obtain ⟨⟨d2, rfl⟩, rfl⟩ := hx
  have R4 : Rel (K.less D l) (ρ3.set y (ρ3.v y) (none, [{ target := .collected D, args := #[] }])) h2 (setW (drawnAt w3 d2) l (.loop { stL (loop0 (mkF fn .normal) ⟨tm1, []⟩ ps asg body D) j with state := .exhausted })) :=
    ((R3.drawn d2).setW L3.loop trivial).set (.inl rfl)
  have L4 : Lp (setW (drawnAt w3 d2) l (.loop { stL (loop0 (mkF fn .normal) ⟨tm1, []⟩ ps asg body D) j with state := .exhausted })) D l { stL (loop0 (mkF fn .normal) ⟨tm1, []⟩ ps asg body D) j with state := .exhausted } :=
    ⟨setW_eq L3.loop, by rw [setW_ne H.ne]; exact L3.dfr⟩
  have kp4 : Keeps K.own w3 (setW (drawnAt w3 d2) l (.loop { stL (loop0 (mkF fn .normal) ⟨tm1, []⟩ ps asg body D) j with state := .exhausted })) := (keeps_drawn _ w3 d2).trans (keeps_setW H.hl)
  generalize hw4 : setW (drawnAt w3 d2) l (.loop { stL (loop0 (mkF fn .normal) ⟨tm1, []⟩ ps asg body D) j with state := .exhausted }) = w4 at *
  have T4 : TmpR (ρ3.set y (ρ3.v y) (none, [{ target := .collected D, args := #[] }])) nt tmps tm1 := (T2.agree A3 I1.cur.tmps).set (.inl rfl)
  have I4 : CIds (K.less D l) (plus (plus U h.nb h1.nb) h1.nb h2.nb) ⟨⟨fn, nt, tmps, jumpItems j ++ k, [], .run, .wrapped⟩, [], h2⟩ := ⟨⟨TT.In.mono plus_sub I1.cur.tmps, (fun _ x => by cases x), trivial⟩, (fun _ x => by cases x), gr3.ids⟩
  have Γ4 : Gam (K.less D l) (ρ3.set y (ρ3.v y) (none, [{ target := .collected D, args := #[] }])) ⟨⟨fn, nt, tmps, jumpItems j ++ k, [], .run, .wrapped⟩, [], h2⟩ cs (G ((mkF fn .normal).atR ⟨tm1, [{ target := .collected D, args := #[] }]⟩ (jumpItems j ++ k)) cs) w4 :=
    gam_run.2 ⟨R4, tm1, [], T4, .inr rfl, hf1, trivial, rfl⟩
  obtain ⟨s5, b5, N5, L5⟩ := upTo_ok (K := K.less D l) (main := main) Gd' F' (X' D l) (C' D l) hu5
  refine (Walk.trans (m := 0) (fun g5 w5 nx => ?_) ((L5 _ _ cs _ _ I4 Γ4).lax less_dk)).any
  obtain ⟨ρ5, A5, kp5, gr5, I5, Γ5⟩ := nx
  have Lw5 := L4.kept kp5
  obtain ⟨⟨fn5, nt5, t5, todo5, ds5, mode5, kind5⟩, callers5, h5⟩ := c5
  have hb5 : ρ5.bt = (none, [{ target := .collected D, args := #[] }]) := A5.bt
  dsimp only at hres hnq
  obtain ⟨f', hf', hin, hrun⟩ := results?_ok Gd hres
  have tail : (callers5 = [] ∧ ds5 = [] ∧ mode5 = .run ∧ kind5 = .wrapped ∧ (todo5 = [] ∨ ∃ k5, todo5 = .code .ret :: k5)) := by
    unfold atTail at s5
    split at s5
    · rename_i e
      cases e
      exact ⟨rfl, rfl, rfl, rfl, .inl rfl⟩
    · rename_i e
      cases e
      exact ⟨rfl, rfl, rfl, rfl, .inr ⟨_, rfl⟩⟩
    · cases s5
  obtain ⟨rfl, rfl, rfl, rfl, htd⟩ := tail
  obtain ⟨R5, tm5, frs, T5, _, hf5, hcs5, rfl⟩ := gam_run.1 Γ5
  cases frs with
  | cons a b => exact absurd hcs5 (by simp [FrRels])
  | nil =>
  have hro : (bB ρ5 fn5 .wrapped).roundOf = none := by show ρ5.bt.1 = none; rw [hb5]
  have hdf : (aB ρ5 .wrapped tm5 []).defers = [{ target := .collected D, args := #[] }] := by show [] ++ ρ5.bt.2 = _; rw [hb5]; rfl
  have step3 : Walk K.P main (DK K) (fun g' w' => (∃ d, w' = drawnAt w5 d) ∧ g' = G { (bB ρ5 fn5 .wrapped).atR (aB ρ5 .wrapped tm5 []) todo5 with mode := .returning } cs) 0
      (G ((bB ρ5 fn5 .wrapped).atR (aB ρ5 .wrapped tm5 []) todo5) ([] ++ cs)) w5 := by
    refine (Walk.one rfl fun d => ?_).any
    have e : stepG K.P main (G ((bB ρ5 fn5 .wrapped).atR (aB ρ5 .wrapped tm5 []) todo5) ([] ++ cs)) (drawnAt w5 d) = .go (G { (bB ρ5 fn5 .wrapped).atR (aB ρ5 .wrapped tm5 []) todo5 with mode := .returning } cs) (drawnAt w5 d) #[] := by
      rcases htd with rfl | ⟨k5, rfl⟩
      · exact stR_end hro
      · exact stR_ret hro
    rw [e]
    exact ⟨⟨Keeps.refl _ _, (fun e he => by simp at he), fun _ _ _ _ x => x⟩, ⟨d, rfl⟩, rfl⟩
  refine (Walk.trans (m := 0) (fun g6 w6 hx => ?_) step3).any
  obtain ⟨⟨d6, rfl⟩, rfl⟩ := hx
  have Lw6 := Lw5.drawn d6
  have R6 := R5.drawn d6
  have kp6 : Keeps K.own w5 (drawnAt w5 d6) := keeps_drawn _ w5 d6
  generalize hw6 : drawnAt w5 d6 = w6 at *
  refine (Walk.one rfl fun d7 => ?_).any
  rw [stF_take (w := drawnAt w6 d7) rfl hdf (Lw6.drawn d7).dfr]
  refine ⟨dk_setW Gd H.hD (Lw6.drawn d7).dfr trivial, ?_⟩
  have R7 := (R6.drawn d7).setW (r := D) (o := .deferred none) (Lw6.drawn d7).dfr trivial
  have kp7 : Keeps K.own w6 (setW (drawnAt w6 d7) D (.deferred none)) := (keeps_drawn _ w6 d7).trans (keeps_setW H.hD)
  have kpA : Keeps K.own w1 (setW (drawnAt w6 d7) D (.deferred none)) := ((((((keeps_drawn _ w1 d).trans lk.2).trans kp3).trans kp4).trans (less_keeps kp5)).trans kp6).trans kp7
  have hsub : ∀ n, plus U h.nb h1.nb n → plus (plus (plus U h.nb h1.nb) h1.nb h2.nb) h2.nb h5.nb n := fun n hn => .inl (.inl hn)
  have hib : ∀ n, plus U h.nb h1.nb n → ρ5.i n = ρ1.i n ∧ ρ5.b n = ρ1.b n := fun n hn => ⟨(A5.i n (.inl hn)).trans (A3.i n hn), (A5.b n (.inl hn)).trans (A3.b n hn)⟩
  have hp5 : ρ5.p = ρ1.p := A5.p.trans A3.p
  have R8 : Rel K ρ5 h5 (setW (drawnAt w6 d7) D (.deferred none)) := R1.unless R7 I1.ids.orc (fun n hn => (hib n hn).2) hp5 (fun n hn => (hib n hn).1) kpA.size
  have hv5 : ∀ n, n ≠ y → ρ5.v n = ρ.v n := fun n hn => by
    have a5 : ρ5.v = (ρ3.set y (ρ3.v y) (none, [{ target := .collected D, args := #[] }])).v := A5.v
    have a3 : ρ3.v = (ρ1.set y (yieldV l) (some l, [])).v := A3.v
    rw [a5]
    simp only [Env.set, if_neg hn]
    rw [a3]
    simp only [Env.set, if_neg hn]
    rw [A1.v]
  have A8 : Agree U ρ (ρ5.set y (ρ.v y) ρ.bt) := by
    refine ⟨hp5.trans A1.p, ?_, rfl, fun n hn => ((hib n (.inl hn)).1).trans (A1.i n hn), fun n hn => ((hib n (.inl hn)).2).trans (A1.b n hn)⟩
    funext n
    show (if n = y then ρ.v y else ρ5.v n) = ρ.v n
    by_cases hn : n = y
    · rw [if_pos hn, hn]
    · rw [if_neg hn, hv5 n hn]
  have gr8 : Grows K U h h5 := gr1.trans (gr3.unless.trans gr5.unless)
  have hvin : v.In (plus U h.nb h5.nb) := AV.In.mono (fun n hn => by
    have := (plus_plus (U := plus U h.nb h1.nb) gr3.nb gr5.nb n).1 hn
    exact (plus_plus gr1.nb (Nat.le_trans gr3.nb gr5.nb) n).1 this) _ (hin I5.ids.unless I5.cur.tmps)
  have hve : v.ev (ρ5.set y (ρ.v y) ρ.bt) = v.ev ρ5 := AV.ev_set v (.inr hnq.1)
  refine ⟨ρ5.set y (ρ.v y) ρ.bt, A8, kp1.trans kpA, gr8, hvin, R8.set (.inr ⟨hnq.2, hO⟩), _, f', rfl, ?_, rfl, hf', rfl, rfl, fun d8 Q hq => ?_⟩
  · have h1 : fn5 = fn := b5
    have h2 : fn = fr.fn := b1
    show fn5 = fr.fn
    rw [h1, h2]
  · rw [hve] at hq
    exact hrun (R8.drawn d8) T5 hq
end
end Go.Proofs.Ytcpiafgkmakdiaa.SX
