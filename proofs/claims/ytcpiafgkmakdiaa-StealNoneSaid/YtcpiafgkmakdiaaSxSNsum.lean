/-
  steal.One over deques of which none has anything: what it comes to, as a summary. Conditions: none.
-/
import Derived.Test.YtcpiafgkmakdiaaSxSNiter
set_option maxRecDepth 100000
set_option linter.unusedVariables false
set_option linter.unusedSectionVars false
namespace Go.Proofs.Ytcpiafgkmakdiaa
open Go.Proofs.Ytcpiafgkmakdiaa.SX Go.Conc

section
variable {own : Nat → Prop} {Ev : Event → Prop} {lock : Prop} {still : Nat → Nat → Prop} {main : Bool} {h : Bool}
variable {D l : Nat} {F1 : Frame} {cs : List Frame} {r0 : Loop} {ρ0 : Env}
variable {ext : Ext} {call : FuncId → List AV → AH → M (AE × AH)} {O : Orc}

/-- The iterator has returned; the loop was not left. -/
def Fin (h : Bool) (own : Nat → Prop) (Ev : Event → Prop) (lock : Prop) (still : Nat → Nat → Prop) (D l : Nat) (F1 : Frame) (cs : List Frame) (r0 : Loop) (ρ0 : Env) (w : World) (g' : Goroutine) (w' : World) : Prop :=
  ∃ v, Keeps own w w' ∧ Rel ((KO (OO h [] []) own Ev lock still).less D l) ρ0 snH w' ∧ Lp w' D l (stL r0 none) ∧ g' = G (F1.finish v) cs

theorem end_step (H : Hyp (KO O own Ev lock still) main ext call D l) {tm : Array Value} (e1 : r0.fn = 18) (e2 : r0.tmps = tm) (e3 : r0.params = #[16]) (e4 : r0.assign = snAsg) (e5 : r0.body = snBody) (hf : ∃ f, Try.prog.funcs[18]? = some f)
    (B : InB ρ0) (T : TmpR ρ0 36 snT tm) (hy : ρ0.v 7777 = yieldV l) (hbt : ρ0.bt = (some l, [])) {i : IE} {c : ACfg} {k : Int} (hl : iter? Try.prog (OO h (endB i) []) (EO (OO h (endB i) [])) (CO (OO h (endB i) [])) (RD (OO h (endB i) [])) 7777 4000 none c = .ok (none, snH))
    (hlow : cfgLow 702 c = true) (hnb : c.h.nb = 607 ∧ c.h.lim = 607) (hlowO : (OO h (endB i) []).low 703 = true) (hi : i.In (Below 702))
    {ρ : Env} {g : Goroutine} {w : World} (A : AtS h own Ev lock still D l F1 cs r0 ρ0 c ρ g w) (hk : i.ev ρ = k) (hkn : ¬ k < ρ0.i 3) :
    Walk Try.prog main (DK (KO O own Ev lock still)) (Fin h own Ev lock still D l F1 cs r0 ρ0 w) 0 g w := by
  have hn : ρ.i 3 = ρ0.i 3 := A.agr.i 3 (by show 3 < 610; omega)
  have hb : ∀ p ∈ endB i, p.1.ev ρ = p.2 := by
    intro p hp
    simp only [endB, List.mem_cons, List.not_mem_nil, or_false] at hp
    subst hp
    simp only [BE.ev, icmp, hk, v3, IE.ev, hn]
    exact decide_eq_false hkn
  have Γ3 : Gam ((KO (OO h (endB i) []) own Ev lock still).less D l) ρ c (F1 :: cs) g w := ⟨swR A.gam.1 hb (fun p hp => by cases hp), A.gam.2⟩
  have I2 : CIds ((KO (OO h [] []) own Ev lock still).less D l) (Below 702) c := lowIds hlow (by omega) (by cases h <;> kernel_rfl)
  have I3 : CIds ((KO (OO h (endB i) []) own Ev lock still).less D l) (Below 703) c := by
    have I := I2
    refine ⟨I.cur.mono fun n hn => Nat.lt_trans hn (by omega), fun fr hfr => (I.callers fr hfr).mono fun n hn => Nat.lt_trans hn (by omega), fun j b hb => ABlk.In.mono (fun n hn => Nat.lt_trans hn (by omega)) (I.ids.hp j b hb), fun j hj => Nat.lt_trans (I.ids.keys j hj) (by omega), I.ids.nodup, fun n h1 h2 => by omega, Orc.low_in hlowO⟩
  have hT : snT.In (Below 703) := TT.In.mono (fun n hn => Nat.lt_trans hn (by omega)) (TT.low_in snLowT)
  have AT := A.agr
  have W := iter_ok (cs := cs) (F1 := F1) (hypO (h := h) (b := endB i) (m := []) H) e1 e2 e3 e4 e5 hf hl I3 hT Γ3 (T.agree AT (TT.low_in snLowT)) (by rw [AT.v]; exact hy) (by rw [AT.bt]; exact hbt) A.lp
  refine W.weaken fun g4 w4 hx => ?_
  obtain ⟨ρ4, v, A4, kp4, _, R4, L4, rfl⟩ := hx
  refine ⟨v, kp4, ?_, L4, rfl⟩
  have R5 : Rel ((KO (OO h [] []) own Ev lock still).less D l) ρ4 snH w4 := swR R4 (fun p hp => by cases hp) fun p hp => by cases hp
  have A5 : Agree (Below 610) ρ4 ρ0 := Agree.symm (AT.trans (A4.mono fun n hn => Nat.lt_trans hn (by omega)) fun _ hn => hn)
  have Ih : CIds ((KO (OO h [] []) own Ev lock still).less D l) (Below 610) ⟨snR, [], snH⟩ := lowIds snLowR (Nat.le_refl _) (lowN h)
  exact R5.agree Ih.ids A5

theorem look2 {a b : IE} {n : Nat} (hn : n < 610) : Go.Proofs.Ytcpiafgkmakdiaa.SX.look (fun a b => Nat.beq a b) n [(700, a), (701, b)] = none := by
  have a1 : Nat.beq n 700 = false := by
    cases hh : Nat.beq n 700 with
    | false => rfl
    | true => have := Nat.eq_of_beq_eq_true hh; omega
  have a2 : Nat.beq n 701 = false := by
    cases hh : Nat.beq n 701 with
    | false => rfl
    | true => have := Nat.eq_of_beq_eq_true hh; omega
  show (Bool.rec (Bool.rec none (some b) (Nat.beq n 701)) (some a) (Nat.beq n 700) : Option IE) = none
  rw [a1, a2]
theorem s2_i {n : Nat} (hn : n < 610) : s2.i n = .var n := by
  unfold Sub.i s2
  rw [look2 hn]
theorem s1_i {n : Nat} (hn : n < 610) : s1.i n = .var n := by
  unfold Sub.i s1
  rw [look2 hn]

theorem keeps_trans' {w w1 w2 : World} (a : Keeps own w w1) (b : Keeps own w1 w2) : Keeps own w w2 := a.trans b

theorem laps (H : Hyp (KO O own Ev lock still) main ext call D l) {tm : Array Value} (e1 : r0.fn = 18) (e2 : r0.tmps = tm) (e3 : r0.params = #[16]) (e4 : r0.assign = snAsg) (e5 : r0.body = snBody) (hf : ∃ f, Try.prog.funcs[18]? = some f)
    (B : InB ρ0) (T : TmpR ρ0 36 snT tm) (hy : ρ0.v 7777 = yieldV l) (hbt : ρ0.bt = (some l, [])) : ∀ (m : Nat) (k : Int), 1 ≤ k → k + m = ρ0.i 3 → ∀ {ρ : Env} {g : Goroutine} {w : World}, AtS h own Ev lock still D l F1 cs r0 ρ0 snD ρ g w → ρ.i 701 = k →
    Walk Try.prog main (DK (KO O own Ev lock still)) (Fin h own Ev lock still D l F1 cs r0 ρ0 w) 0 g w := by
  have hi2 : i2.In (Below 702) := (by show 701 < 702; omega)
  intro m
  induction m with
  | zero =>
    intro k h1 hk ρ g w A hρ
    exact end_step H e1 e2 e3 e4 e5 hf B T hy hbt (i := i2) (snEnd2 h) snLowD ⟨rfl, rfl⟩ (lowE2 h) hi2 A hρ (by omega)
  | succ m ih =>
    intro k h1 hk ρ g w A hρ
    have hb := B.n64
    have W := lap_step H e1 e2 e3 e4 e5 hf B T hy hbt (i := i2) (s := s2) (k := k) (snLap2 h) snRen2 snLowD ⟨rfl, rfl⟩ (lowL2 h) hi2 (fun ρ => ⟨rfl, (by funext n; rfl), rfl, fun n hn => ?_, fun n hn => rfl⟩) (fun ρ hk' => ?_) A hρ h1 (by omega)
    · refine (Walk.trans (m := 0) (fun g1 w1 hx => ?_) W).any
      obtain ⟨kp, ρ', A', hρ'⟩ := hx
      refine (ih (k + 1) (by omega) (by omega) A' hρ').weaken fun g2 w2 hF => ?_
      obtain ⟨v, a, b, c, d⟩ := hF
      exact ⟨v, kp.trans a, b, c, d⟩
    · show (s2.i n).ev ρ = ρ.i n
      rw [s2_i hn]; rfl
    · have e : (ρ.sub s2).i 701 = IntKind.wrap .i64 (ρ.i 701 + 1) := rfl
      have hk2 : ρ.i 701 = k := hk'
      rw [e, hk2]
      exact IntWalk.i64_in _ ⟨by omega, by omega⟩
/-- The whole of the iterator's way. -/
theorem one_iter (Gd : (KO (OO h inB []) own Ev lock still).Good) : IterTo (KO (OO h inB []) own Ev lock still) main (EO (OO h inB [])) (CO (OO h inB [])) 7777 18 36 snT #[16] snAsg snBody ⟨snR, [], snH⟩ none snH := by
  intro D l cs H F1 r0 tm e1 e2 e3 e4 e5 hf U ρ w g I ht Γ T hy hbt L
  have I0 : CIds ((KO (OO h inB []) own Ev lock still).less D l) (Below 610) ⟨snR, [], snH⟩ := lowIds snLowR (Nat.le_refl _) (lowIn h)
  have B : InB ρ := by
    have hb : ∀ p ∈ inB, p.1.ev ρ = p.2 := Γ.1.bs
    have b1 := hb (.cmp .lss v3 (.lit 1), false) (by simp [inB])
    have b2 := hb (.cmp .gtr v3 (.lit 64), false) (by simp [inB])
    have b3 := hb (.cmp .lss v2 (.lit 0), false) (by simp [inB])
    have b4 := hb (.cmp .geq v2 v3, false) (by simp [inB])
    simp only [BE.ev, icmp, v2, v3, IE.ev, decide_eq_false_iff_not] at b1 b2 b3 b4
    exact ⟨by omega, by omega, by omega, by omega⟩
  have hbs : ∀ p ∈ inB, p.1.ev ρ = p.2 := Γ.1.bs
  have W := iterUp_ok (cs := cs) (F1 := F1) H e1 e2 e3 e4 e5 hf (snFirst h) I0 (TT.low_in snLowT) Γ T hy hbt L
  refine (Walk.trans (m := 0) (fun g1 w1 hx => ?_) W).any
  obtain ⟨ρ1, A1, kp1, _, I1, Γ1, L1⟩ := hx
  have At : AtS h own Ev lock still D l F1 cs r0 ρ snF ρ1 g1 w1 := ⟨⟨swR Γ1.1 (fun p hp => by cases hp) (fun p hp => by cases hp), Γ1.2⟩, A1, L1⟩
  have lowF : cfgLow 702 snF = true := by kernel_rfl
  have hi1 : i1.In (Below 702) := trivial
  have fin : ∀ {g' : Goroutine} {w' : World}, Fin h own Ev lock still D l F1 cs r0 ρ w1 g' w' → ∃ ρ' v, Agree U ρ ρ' ∧ Keeps own w w' ∧ Grows ((KO (OO h inB []) own Ev lock still).less D l) U snH snH ∧ Rel ((KO (OO h inB []) own Ev lock still).less D l) ρ' snH w' ∧ Lp w' D l (stL r0 none) ∧ g' = G (F1.finish v) cs := by
    intro g' w' hF
    obtain ⟨v, kp, R, L2, e⟩ := hF
    exact ⟨ρ, v, Agree.refl _ _, kp1.trans kp, Grows.refl I.ids, swR R hbs (fun p hp => by cases hp), L2, e⟩
  by_cases h1 : 1 < ρ.i 3
  · have W1 := lap_step H e1 e2 e3 e4 e5 hf B T hy hbt (i := i1) (s := s1) (k := 1) (snLap1 h) snRen1 lowF ⟨rfl, rfl⟩ (lowL1 h) hi1 (fun ρ => ⟨rfl, (by funext n; rfl), rfl, fun n hn => (by show (s1.i n).ev ρ = ρ.i n; rw [s1_i hn]; rfl), fun n hn => rfl⟩) (fun ρ _ => rfl) At rfl (by omega) h1
    refine (Walk.trans (m := 0) (fun g2 w2 hx => ?_) W1).any
    obtain ⟨kp2, ρ2, A2, hρ2⟩ := hx
    have hm : (2 : Int) + ((ρ.i 3 - 2).toNat : Int) = ρ.i 3 := by omega
    refine (laps H e1 e2 e3 e4 e5 hf B T hy hbt (ρ.i 3 - 2).toNat 2 (by omega) hm A2 hρ2).weaken fun g3 w3 hF => ?_
    obtain ⟨v, a, b, c, d⟩ := hF
    exact fin ⟨v, kp2.trans a, b, c, d⟩
  · refine (end_step H e1 e2 e3 e4 e5 hf B T hy hbt (i := i1) (k := 1) (snEnd1 h) lowF ⟨rfl, rfl⟩ (lowE1 h) hi1 At rfl h1).weaken fun g3 w3 hF => fin hF

theorem retB_ok {x : M (AE × AH)} {v : AV} (hx : retB x v = true) : ∃ h', x = .ok (.returned v, h') := by
  unfold retB at hx
  split at hx
  · rename_i u h'
    exact ⟨h', by rw [AV.eqb_eq _ _ hx]⟩
  · cases hx

/-- Where there is something to go round. -/
theorem one_in (Gd : (KO (OO h inB []) own Ev lock still).Good) : ∃ N h', Go.Proofs.Ytcpiafgkmakdiaa.SX.Ends (KO (OO h inB []) own Ev lock still) main ⟨snFr, [], h1⟩ (.returned snRes, h') N := by
  obtain ⟨h', ht⟩ := retB_ok (snTail h)
  exact ⟨0, h', rf2_ok (K := KO (OO h inB []) own Ev lock still) Gd factsO (extO Gd) (fun D l => extO (less_good Gd)) (callO Gd) (fun D l => callO (less_good Gd)) (snNoq h inB) snE (snUp h) snG (snC h) snE2 (one_iter Gd) ht⟩

theorem one_out (k : Nat) (hk : k < 4) (Gd : (KO (OO h (outB k) []) own Ev lock still).Good) : ∃ N h', Go.Proofs.Ytcpiafgkmakdiaa.SX.Ends (KO (OO h (outB k) []) own Ev lock still) main ⟨snFr, [], h1⟩ (.returned snRes, h') N := by
  have hr : retB (rfCall? Try.prog (OO h (outB k) []) (EO (OO h (outB k) [])) (CO (OO h (outB k) [])) 4000 7777 18 snArgs h1) snRes = true := by
    have : k = 0 ∨ k = 1 ∨ k = 2 ∨ k = 3 := by omega
    rcases this with rfl | rfl | rfl | rfl
    · exact snOut0 h
    · exact snOut1 h
    · exact snOut2 h
    · exact snOut3 h
  obtain ⟨h', he⟩ := retB_ok hr
  obtain ⟨fr, N, hen, E⟩ := rf_ok (K := KO (OO h (outB k) []) own Ev lock still) Gd factsO (extO Gd) (fun D l => extO (less_good Gd)) (callO Gd) (fun D l => callO (less_good Gd)) (snNoq h (outB k)) he
  have : enterA Try.prog 18 snArgs .normal = .ok fr := hen
  rw [snE] at this
  cases this
  exact ⟨N, h', E⟩
end
end Go.Proofs.Ytcpiafgkmakdiaa
