/-
  steal.One over deques of which none has anything: round by round, whatever their number and one's own. Conditions: none.
-/
import Derived.Test.YtcpiafgkmakdiaaSxSNrun
import Derived.IntWalk
set_option maxRecDepth 100000
set_option linter.unusedVariables false
set_option linter.unusedSectionVars false
namespace Go.Proofs.Ytcpiafgkmakdiaa
open Go.Proofs.Ytcpiafgkmakdiaa.SX Go.Conc

theorem lowIds {K : Ctx} {n : Nat} {c : ACfg} (h : cfgLow n c = true) (hn : c.h.lim ≤ c.h.nb) (hO : K.O.low n = true) : CIds K (Below n) c := by
  simp only [cfgLow, Bool.and_eq_true] at h
  obtain ⟨⟨⟨h1, h2⟩, h3⟩, h4⟩ := h
  have blk : ∀ p ∈ c.h.hp, p.1 < n ∧ p.2.In (Below n) := fun p hp => by
    have := List.all_eq_true.1 h3 p hp
    simp only [Bool.and_eq_true] at this
    exact ⟨Nat.le_of_ble_eq_true this.1, ABlk.low_in this.2⟩
  refine ⟨AFrame.low_in h1, fun fr hf => AFrame.low_in (List.all_eq_true.1 h2 fr hf), fun i b hb => (blk _ (find_mem hb)).2, fun i hi => ?_, nodupB_ok h4, fun m hm hl' _ => ?_, Orc.low_in hO⟩
  · obtain ⟨p, hp, rfl⟩ := List.mem_map.1 hi
    exact (blk p hp).1
  · omega

theorem Agree.symm {U : Nat → Prop} {ρ ρ' : Env} (A : Agree U ρ ρ') : Agree U ρ' ρ := ⟨A.p.symm, A.v.symm, A.bt.symm, fun n hn => (A.i n hn).symm, fun n hn => (A.b n hn).symm⟩

section
variable {own : Nat → Prop} {Ev : Event → Prop} {lock : Prop} {still : Nat → Nat → Prop} {main : Bool} {h : Bool}

noncomputable abbrev KO (O : Orc) (own : Nat → Prop) (Ev : Event → Prop) (lock : Prop) (still : Nat → Nat → Prop) : Ctx := ⟨Try.prog, O, own, Ev, lock, still⟩

theorem goodO {O O' : Orc} (G : (KO O own Ev lock still).Good) : (KO O' own Ev lock still).Good := ⟨G.rd, G.wr, G.noWr, G.ext, G.noRoom, G.lock, G.obj⟩
theorem factsO {b : List (BE × Bool)} {m : List (AA × AV)} : (KO (OO h b m) own Ev lock still).Facts := ⟨fns_ok, ext_facts, mixed⟩
theorem extO {O : Orc} (G : (KO O own Ev lock still).Good) : ExtOk (KO O own Ev lock still) (EO O) := ext_ok G (.inr tabC_quiet) tabC_facts
theorem callO {b : List (BE × Bool)} {m : List (AA × AV)} (G : (KO (OO h b m) own Ev lock still).Good) : CallOk (KO (OO h b m) own Ev lock still) main (CO (OO h b m)) :=
  callOk_of (K := KO (OO h b m) own Ev lock still) (main := main) noSums_ok (k := run? Try.prog (OO h b m) (EO (OO h b m)) noSums 4000) (run_ok G factsO (extO G) noSums_ok)
theorem hypO {O : Orc} {b : List (BE × Bool)} {m : List (AA × AV)} {ext : Ext} {call : FuncId → List AV → AH → M (AE × AH)} {D l : Nat} (H : Hyp (KO O own Ev lock still) main ext call D l) :
    Hyp (KO (OO h b m) own Ev lock still) main (EO (OO h b m)) (CO (OO h b m)) D l :=
  ⟨goodO H.gd, factsO, extO (goodO (less_good H.gd)), callO (goodO (less_good H.gd)), H.hD, H.hl, H.ne⟩

/-- Other things known, the same memory. -/
theorem swR {b b' : List (BE × Bool)} {m m' : List (AA × AV)} {ρ : Env} {hh : AH} {w : World} (R : Rel (KO (OO h b m) own Ev lock still) ρ hh w) (hb : ∀ p ∈ b', p.1.ev ρ = p.2)
    (hm : ∀ p ∈ m', ¬ own (p.1.ev ρ).block ∧ w.cell? (p.1.ev ρ) = some (p.2.ev ρ) ∧ ∀ s, Ev ⟨.cell (p.1.ev ρ), false, s⟩) : Rel (KO (OO h b' m') own Ev lock still) ρ hh w :=
  ⟨R.blk, R.own', R.inj, hb, R.is, fun p hp => (List.mem_append.1 hp).elim (hm p) fun hp => R.mem p (List.mem_append_right _ hp), R.room, R.lent, R.low⟩
theorem agreeG {K : Ctx} {U : Nat → Prop} {ρ ρ' : Env} {c : ACfg} {cs : List Frame} {g : Goroutine} {w : World} (Γ : Gam K ρ c cs g w) (I : CIds K U c) (A : Agree U ρ ρ') : Gam K ρ' c cs g w := by
  obtain ⟨R, fr, frs, h1, h2, h3⟩ := Γ
  exact ⟨R.agree I.ids A, fr, frs, h1.agree A I.cur, callers_agree A h2 I.callers, h3⟩

/-! ### The array -/
theorem elem_ev {ρ : Env} {e : Nat} (he : (e : Int) < ρ.i 3) : (elemE e).ev ρ = ⟨ρ.b 1, e, none⟩ := by
  have : (Int.ofNat e).tmod (ρ.i 3) = e := by
    rw [Int.ofNat_eq_natCast, Int.tmod_eq_emod_of_nonneg (Int.natCast_nonneg e)]
    exact Int.emod_eq_of_lt (Int.natCast_nonneg e) he
  simp only [elemE, AA.ev, BR.ev, IE.ev, iop, v3, this]
  simp

/-- What stands at a place of the array. -/
def Spot (h : Bool) (own : Nat → Prop) (Ev : Event → Prop) (ρ : Env) (w : World) (e : Nat) : Prop :=
  (¬ own (ρ.b 1) ∧ ∀ s, Ev ⟨.cell ⟨ρ.b 1, e, none⟩, false, s⟩) ∧ match h with
  | true => w.cell? ⟨ρ.b 1, e, none⟩ = some (.pointer (some ⟨ρ.b (400 + e), 0, none⟩)) ∧ ¬ own (ρ.b (400 + e)) ∧ w.cell? ⟨ρ.b (400 + e), 0, none⟩ = some (.pointer none) ∧ ∀ s, Ev ⟨.cell ⟨ρ.b (400 + e), 0, none⟩, false, s⟩
  | false => w.cell? ⟨ρ.b 1, e, none⟩ = some (.pointer none)

theorem spot_at {b : List (BE × Bool)} {m : List (AA × AV)} {ρ : Env} {hh : AH} {w : World} (R : Rel (KO (OO h b m) own Ev lock still) ρ hh w) {e : Nat} (he : (e : Int) < ρ.i 3) (hn : ρ.i 3 ≤ 70) : Spot h own Ev ρ w e := by
  have h70 : e < 70 := by omega
  cases h with
  | true =>
    have m1 := R.mem (elemE e, dqP (400 + e)) (List.mem_append_right _ (List.mem_append_left _ (List.mem_map.2 ⟨e, List.mem_range.2 h70, rfl⟩)))
    have m2 := R.mem (⟨.dyn (400 + e), .lit 0⟩, .ptr none) (List.mem_append_right _ (List.mem_append_right _ (List.mem_map.2 ⟨e, List.mem_range.2 h70, rfl⟩)))
    dsimp only at m1
    rw [elem_ev he] at m1
    exact ⟨⟨m1.1, m1.2.2⟩, m1.2.1, m2.1, m2.2.1, m2.2.2⟩
  | false =>
    have m1 := R.mem (elemE e, .ptr none) (List.mem_append_right _ (List.mem_map.2 ⟨e, List.mem_range.2 h70, rfl⟩))
    dsimp only at m1
    rw [elem_ev he] at m1
    exact ⟨⟨m1.1, m1.2.2⟩, m1.2.1⟩

theorem place_ev {ρ : Env} {i : IE} {k : Int} (hi : i.ev ρ = k) (h0 : 0 ≤ ρ.i 2) (h2 : ρ.i 2 < ρ.i 3) (h3 : ρ.i 3 ≤ 64) (hk0 : 0 ≤ k) (hk : k ≤ 64) : ∃ e : Nat, (placeE i).ev ρ = (e : Int) ∧ (e : Int) < ρ.i 3 := by
  have e1 : (placeE i).ev ρ = (ρ.i 2 + k).tmod (ρ.i 3) := by
    simp only [placeE, v2, v3, IE.ev, iop, hi]
    rw [IntWalk.i64_in (ρ.i 2 + k) ⟨by omega, by omega⟩]
  rw [Int.tmod_eq_emod_of_nonneg (by omega)] at e1
  have hp : 0 < ρ.i 3 := by omega
  have a1 := Int.emod_nonneg (ρ.i 2 + k) (by omega : ρ.i 3 ≠ 0)
  have a2 := Int.emod_lt_of_pos (ρ.i 2 + k) hp
  exact ⟨((ρ.i 2 + k) % ρ.i 3).toNat, by rw [e1, Int.toNat_of_nonneg a1], by rw [Int.toNat_of_nonneg a1]; exact a2⟩

theorem placeAA_ev {ρ : Env} {i : IE} {e : Nat} (he : (placeE i).ev ρ = (e : Int)) : (⟨.dyn 1, .tn (placeE i)⟩ : AA).ev ρ = ⟨ρ.b 1, e, none⟩ := by
  simp only [AA.ev, BR.ev, IE.ev, he]
  simp

/-! ### At a test -/
variable {D l : Nat} {F1 : Frame} {cs : List Frame} {r0 : Loop} {ρ0 : Env}
structure AtS (h : Bool) (own : Nat → Prop) (Ev : Event → Prop) (lock : Prop) (still : Nat → Nat → Prop) (D l : Nat) (F1 : Frame) (cs : List Frame) (r0 : Loop) (ρ0 : Env) (c : ACfg) (ρ : Env) (g : Goroutine) (w : World) : Prop where
  gam : Gam ((KO (OO h [] []) own Ev lock still).less D l) ρ c (F1 :: cs) g w
  agr : Agree (Below 610) ρ0 ρ
  lp : Lp w D l (stL r0 none)

/-- What is known beforehand of the numbers. -/
structure InB (ρ : Env) : Prop where
  n1 : 1 ≤ ρ.i 3
  n64 : ρ.i 3 ≤ 64
  m0 : 0 ≤ ρ.i 2
  mn : ρ.i 2 < ρ.i 3
theorem InB.agree {ρ ρ' : Env} (B : InB ρ) (A : Agree (Below 610) ρ ρ') : InB ρ' := by
  have e3 : ρ'.i 3 = ρ.i 3 := A.i 3 (by show 3 < 610; omega)
  have e2 : ρ'.i 2 = ρ.i 2 := A.i 2 (by show 2 < 610; omega)
  exact ⟨by rw [e3]; exact B.n1, by rw [e3]; exact B.n64, by rw [e2]; exact B.m0, by rw [e2, e3]; exact B.mn⟩

variable {ext : Ext} {call : FuncId → List AV → AH → M (AE × AH)} {O : Orc}

theorem lap_step (H : Hyp (KO O own Ev lock still) main ext call D l) {tm : Array Value} (e1 : r0.fn = 18) (e2 : r0.tmps = tm) (e3 : r0.params = #[16]) (e4 : r0.assign = snAsg) (e5 : r0.body = snBody) (hf : ∃ f, Try.prog.funcs[18]? = some f)
    (B : InB ρ0) (T : TmpR ρ0 36 snT tm) (hy : ρ0.v 7777 = yieldV l) (hbt : ρ0.bt = (some l, [])) {i : IE} {c : ACfg} {s : Sub} {k : Int} (hl : lap? Try.prog (OO h (lapB i) (lapM h i)) (EO (OO h (lapB i) (lapM h i))) (CO (OO h (lapB i) (lapM h i))) (RD (OO h (lapB i) (lapM h i))) 7777 22 4000 snKs c = .ok (renD s))
    (hr : IsRen s (renD s) snD) (hlow : cfgLow 702 c = true) (hnb : c.h.nb = 607 ∧ c.h.lim = 607) (hlowO : (OO h (lapB i) (lapM h i)).low 703 = true) (hi : i.In (Below 702)) (hs1 : ∀ ρ : Env, Agree (Below 610) ρ (ρ.sub s)) (hs2 : ∀ ρ : Env, i.ev ρ = k → (ρ.sub s).i 701 = k + 1)
    {ρ : Env} {g : Goroutine} {w : World} (A : AtS h own Ev lock still D l F1 cs r0 ρ0 c ρ g w) (hk : i.ev ρ = k) (hk1 : 1 ≤ k) (hkn : k < ρ0.i 3) :
    Walk Try.prog main (DK (KO O own Ev lock still)) (fun g' w' => Keeps own w w' ∧ ∃ ρ', AtS h own Ev lock still D l F1 cs r0 ρ0 snD ρ' g' w' ∧ ρ'.i 701 = k + 1) 0 g w := by
  have Bρ := B.agree A.agr
  have hn : ρ.i 3 = ρ0.i 3 := A.agr.i 3 (by show 3 < 610; omega)
  obtain ⟨e, he, hen⟩ := place_ev hk Bρ.m0 Bρ.mn Bρ.n64 (by omega) (by have := B.n64; omega)
  have S := spot_at A.gam.1 hen (by have := Bρ.n64; omega)
  have hU : ∀ n, Below 610 n → Below 702 n := fun n hn => Nat.lt_trans hn (by omega)
  -- the deque's name
  have A2 : Agree (Below 702) ρ (ρ.upd 702 (ρ.b (400 + e)) 0) := agree_upd (by show ¬ 702 < 702; omega)
  have I2 : CIds ((KO (OO h [] []) own Ev lock still).less D l) (Below 702) c := lowIds hlow (by omega) (by cases h <;> kernel_rfl)
  have Γ2 := agreeG A.gam I2 A2
  generalize hρ2 : ρ.upd 702 (ρ.b (400 + e)) 0 = ρ2 at *
  have b1 : ρ2.b 1 = ρ.b 1 := A2.b 1 (by show 1 < 702; omega)
  have b702 : ρ2.b 702 = ρ.b (400 + e) := by rw [← hρ2]; simp [Env.upd]
  have i3 : ρ2.i 3 = ρ.i 3 := A2.i 3 (by show 3 < 702; omega)
  have hi2 : i.ev ρ2 = k := by rw [IE.ev_agree A2 hi]; exact hk
  have hpl : (placeE i).In (Below 702) := ⟨⟨(by show 2 < 702; omega), hi⟩, (by show 3 < 702; omega)⟩
  have he2 : (placeE i).ev ρ2 = (e : Int) := by rw [IE.ev_agree A2 hpl]; exact he
  have hb : ∀ p ∈ lapB i, p.1.ev ρ2 = p.2 := by
    intro p hp
    simp only [lapB, List.mem_cons, List.not_mem_nil, or_false] at hp
    have n1 := Bρ.n1
    rcases hp with rfl | rfl | rfl | rfl
    · simp only [BE.ev, icmp, hi2, v3, IE.ev, i3, hn]; exact decide_eq_true hkn
    · simp only [BE.ev, icmp, v3, IE.ev, i3]; simp; omega
    · simp only [BE.ev, icmp, he2, IE.ev]; exact decide_eq_true (Int.natCast_nonneg e)
    · simp only [BE.ev, icmp, he2, v3, IE.ev, i3]; exact decide_eq_true (by omega)
  have hm : ∀ p ∈ lapM h i, ¬ (own (p.1.ev ρ2).block ∧ (p.1.ev ρ2).block ≠ D ∧ (p.1.ev ρ2).block ≠ l) ∧ w.cell? (p.1.ev ρ2) = some (p.2.ev ρ2) ∧ ∀ s, Ev ⟨.cell (p.1.ev ρ2), false, s⟩ := by
    intro p hp
    obtain ⟨⟨s1, s2⟩, s3⟩ := S
    cases h with
    | true =>
      simp only [lapM, List.mem_cons, List.not_mem_nil, or_false] at hp
      rcases hp with rfl | rfl
      · dsimp only
        rw [placeAA_ev he2, b1]
        refine ⟨s1, ?_, s2⟩
        rw [s3.1]
        simp [dqP, AV.ev, AA.ev, BR.ev, IE.ev, b702]
      · have ea : (⟨.dyn 702, .lit 0⟩ : AA).ev ρ2 = ⟨ρ.b (400 + e), 0, none⟩ := by simp [AA.ev, BR.ev, IE.ev, b702]
        dsimp only
        rw [ea]
        exact ⟨s3.2.1, s3.2.2.1, s3.2.2.2⟩
    | false =>
      simp only [lapM, List.mem_cons, List.not_mem_nil, or_false] at hp
      subst hp
      dsimp only
      rw [placeAA_ev he2, b1]
      exact ⟨s1, s3, s2⟩
  have Γ3 : Gam ((KO (OO h (lapB i) (lapM h i)) own Ev lock still).less D l) ρ2 c (F1 :: cs) g w := ⟨swR Γ2.1 hb hm, Γ2.2⟩
  have hc703 : cfgLow 702 c = true := hlow
  have I3 : CIds ((KO (OO h (lapB i) (lapM h i)) own Ev lock still).less D l) (Below 703) c := by
    have I := I2
    refine ⟨I.cur.mono fun n hn => Nat.lt_trans hn (by omega), fun fr hfr => (I.callers fr hfr).mono fun n hn => Nat.lt_trans hn (by omega), fun j b hb => ABlk.In.mono (fun n hn => Nat.lt_trans hn (by omega)) (I.ids.hp j b hb), fun j hj => Nat.lt_trans (I.ids.keys j hj) (by omega), I.ids.nodup, fun n h1 h2 => by omega, Orc.low_in hlowO⟩
  have AT : Agree (Below 610) ρ0 ρ2 := A.agr.trans (A2.mono hU) fun _ hn => hn
  have hT : snT.In (Below 703) := TT.In.mono (fun n hn => Nat.lt_trans hn (by omega)) (TT.low_in snLowT)
  have W := lap_ok (cs := cs) (F1 := F1) (hypO (h := h) (b := lapB i) (m := lapM h i) H) e1 e2 e3 e4 e5 hf hl I3 hT Γ3 (T.agree AT (TT.low_in snLowT)) (by rw [AT.v]; exact hy) (by rw [AT.bt]; exact hbt) A.lp
  refine W.weaken fun g4 w4 hx => ?_
  obtain ⟨ρ4, A4, kp4, _, I4, Γ4, L4⟩ := hx
  refine ⟨kp4, ρ4.sub s, ⟨?_, ?_, L4⟩, hs2 ρ4 ?_⟩
  · have F : FactsAt ((KO (OO h (lapB i) (lapM h i)) own Ev lock still).less D l) (OO h [] []) (ρ4.sub s) w4 := by
      refine ⟨(fun p hp => by cases hp), fun p hp => ?_, fun p hp => ?_⟩
      · have := Γ4.1.is p hp
        obtain rfl := List.mem_singleton.1 hp
        rw [IE.ev_agree (hs1 ρ4) (show (IE.tn v3).In (Below 610) from (by show 3 < 610; omega)), IE.ev_agree (hs1 ρ4) (show v3.In (Below 610) from (by show 3 < 610; omega))]
        exact this
      · have hp' : p ∈ fam h := hp
        have hin := (Orc.low_in (lowN h)).mem p hp
        have := Γ4.1.mem p (List.mem_append_right _ hp')
        rw [AA.ev_agree (hs1 ρ4) hin.1, AV.ev_agree (hs1 ρ4) _ hin.2]
        exact this
    exact Gam.ren (K := (KO (OO h (lapB i) (lapM h i)) own Ev lock still).less D l) hr Γ4 I4.ids.nodup F
  · exact (AT.trans (A4.mono fun n hn => Nat.lt_trans hn (by omega)) fun _ hn => hn).trans (hs1 ρ4) fun _ hn => hn
  · rw [IE.ev_agree A4 (IE.In.mono (fun n hn => Nat.lt_trans hn (by omega)) hi)]
    exact hi2
end
end Go.Proofs.Ytcpiafgkmakdiaa
