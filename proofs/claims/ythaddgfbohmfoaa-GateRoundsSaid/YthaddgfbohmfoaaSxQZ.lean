/-
  GateRounds: from its entry, through works, to its answer. Conditions: none.
-/
import Derived.Test.YthaddgfbohmfoaaSxQEs
import Derived.Conc.LeavingOf
import Derived.ProofKit
import Derived.ChangeSlices
import Derived.ChangeMaps5
set_option maxRecDepth 100000
set_option linter.unusedVariables false
set_option linter.unusedSimpArgs false
namespace Go.Proofs.Ythaddgfbohmfoaa
open Go.Proofs.Ythaddgfbohmfoaa.SX Go.Conc
open Go.ConcN (upd upd_ne upd_same)

/-! ### closed data -/
noncomputable def argA (q : Bool) : AV := match q with
  | true => nilA
  | false => oftS
noncomputable def f3I (q : Bool) : AFrame := okA (enterA Try.prog 3 [argA q] .normal)
theorem f3IE (q : Bool) : enterA Try.prog 3 [argA q] .normal = .ok (f3I q) := by cases q <;> kernel_rfl
noncomputable def a0E (q : Bool) : ACfg := okCf (runQ [] [] 8 [100] (cfg (f3I q) [] []))
theorem a0run (q : Bool) : runQ [] [] 8 [100] (cfg (f3I q) [] []) = .ok (a0E q) := by cases q <;> kernel_rfl
theorem a0cur (q : Bool) : (a0E q).cur = f9In := by cases q <;> kernel_rfl
theorem a0cl (q : Bool) : (a0E q).callers.map (fun fr => frSeen fr [1]) = [⟨3, 95, f3WT, [], .run, .normal, [], [], [ptr0 100]⟩] := by cases q <;> kernel_rfl
theorem a0hp (q : Bool) : (a0E q).h.hp = [(100, .cells [argA q] 22)] := by cases q <;> kernel_rfl
theorem a0IL (q : Bool) : cfgLow 100 (cfg (f3I q) [] []) = true := by cases q <;> kernel_rfl
theorem a0OL : (OO [] [] []).low 100 = true := by kernel_rfl
noncomputable def memN : List (AA × AV) := [(⟨.dyn 11, .lit 0⟩, nilA)]
theorem w2N (s9 st : Nat → Value) : isT (run? Try.prog (OO [] [] memN) (XX [] [] memN) noSums 4000 (cfg (f9R s9) [f3W0 st] [])) = true := by kernel_rfl
theorem w2NO : (OO [] [] memN).low 100 = true := by kernel_rfl
theorem f9Low : cfgLow 100 ⟨f9In, [], ⟨[], 100, 100⟩⟩ = true := by kernel_rfl
theorem one3 : oneTmp Try.prog 3 = true := by kernel_rfl

/-! ### works -/
theorem crew_snd : CrewSound Try.prog (OO [] [] []) (XX [] [] []) noSums :=
  ⟨fun _ _ _ _ => ⟨fns_ok, ext_facts, mixed⟩, fun _ _ _ _ G => ext_ok G (.inr tabC_quiet) tabC_facts, (fun p hp => by cases hp), fun _ _ _ _ _ _ => noSums_ok⟩

theorem works_run {base : Nat} {W0 : World} {m : Machine} {T : Trace} {w : World} {f9 f3 : Frame} {ρ : Env} (hb : base ≤ W0.heap.size) (A : SAt Try.prog base W0 Nob 0 1 m T (G f9 [f3]) w) (h9 : FrRel Try.prog ρ f9In f9) :
    Gets Try.prog m T fun m' T' => ∃ N' w' st f9', SAt Try.prog base W0 Nob 0 N' m' T' (G f9' [f3]) w' ∧ ∀ ρ, FrRel Try.prog ρ (f9R st) f9' := by
  obtain ⟨gs, sl, q, rfl, hsz, ha, C⟩ := A.ex
  have hlow := low_ids f9Low
  have I0 : Ids (CK Try.prog (OO [] [] []) base [] ρ) (Below 100) hCrew :=
    ⟨(fun i b hb => by cases hb), (fun i hi => by cases hi), List.nodup_nil, (fun n hn _ h => by have h1 : 100 ≤ n := hn; have h2 : n < 100 := h; omega), (fun p hp => by cases hp), (fun p hp => by cases hp), fun p hp => by cases hp⟩
  have R0 : Rel (CK Try.prog (OO [] [] []) base [] ρ) ρ hCrew w := by
    refine ⟨(fun i b hb => by cases hb), (fun i b hb => by cases hb), (fun i j b c hb => by cases hb), (fun p hp => by cases hp), (fun p hp => by cases hp), (fun p hp => by cases hp), (fun n hn => ⟨Nat.le_trans A.size hn, fun ⟨s, hs, _⟩ => by cases hs⟩), (fun i b hb => by cases hb), fun b n h => ?_⟩
    rcases h with ⟨s, hs, _⟩ | ⟨_, s, hs, _⟩ <;> cases hs
  have I : CInv Try.prog (OO [] [] []) base W0 [f3] ⟨0, ⟨f9In, [], hCrew⟩, [], 1, 0⟩ (crowd gs w sl) T :=
    ⟨gs, w, sl, q, Nob, Below 100, ρ, fun n => n, _, rfl, ⟨C, rfl, fun _ _ _ _ e => e, fun i hi => by
      have : i < 1 := hi
      show i < gs.size
      omega, Nat.lt_succ_self _, ha, ⟨hlow.cur, fun _ x => (by simp at x), I0⟩, ⟨R0, f9, [], h9, trivial, rfl⟩, fun s hs => (by cases hs), fun i t e => (by cases e), List.nodup_nil, A.keeps, fun p hp => (by cases hp)⟩⟩
  have hrun := wkRun
  unfold cchunk? at hrun
  have hH := wkH
  have hS := wkSeats
  have hD := wkDeaf
  have hC := wkCallers
  have hV := wkSeen
  revert hH hS hD hC hV hrun
  generalize wkS = st
  intro hrun hH hS hD hC hV
  split at hrun
  · rename_i h cur callers hp nb lim seats next deaf hr
    cases hrun
    obtain ⟨M, m1, T1, h1, I1⟩ := crew_ok crew_snd hr I
    refine ⟨M, m1, T1, h1, ?_⟩
    obtain ⟨gs1, w1, sl1, q1, Inb1, U1, ρ1, γ, a1, rfl, F⟩ := I1
    dsimp only at hH hS hD hC hV
    subst hH; subst hS; subst hD; subst hC
    have hnone : Inb1 = Nob := by
      funext i
      show Inb1 i = none
      cases e : Inb1 i with
      | none => rfl
      | some t => obtain ⟨s, hs, _⟩ := F.all i t e; cases hs
    subst hnone
    obtain ⟨R1, fr1, frs1, hf1, hfs1, rfl⟩ := F.gam
    obtain rfl : frs1 = [] := by
      cases frs1 with
      | nil => rfl
      | cons a b => exact hfs1.elim
    have hz := F.zero
    have core := F.core
    have here := F.here
    dsimp only at core here
    rw [hz] at core here
    obtain ⟨s9, t9⟩ := FrRel.toldF hf1 (lv := [(0, TB)]) hV (.inl rfl)
    exact ⟨gs1.size, w1, s9, fr1, ⟨⟨gs1, sl1, q1, rfl, rfl, here, core⟩, fun i t e => (by cases e), F.keeps, Nat.le_trans hb F.keeps.size⟩, fun ρ => t9 ρ rfl⟩
  · cases hrun
  · cases hrun

/-! ### all of it -/
theorem SAt.on {base base' : Nat} {W0 W0' : World} {N : Nat} {m : Machine} {T : Trace} {a : Goroutine} {w : World} (A : SAt Try.prog base W0 Nob 0 N m T a w) (kp : Keeps (fun n => base' ≤ n) W0' w) (hb : base' ≤ W0'.heap.size) : SAt Try.prog base' W0' Nob 0 N m T a w :=
  ⟨A.ex, fun i t e => (by cases e), kp, Nat.le_trans hb kp.size⟩
noncomputable def entE (n ob oo oc OB : Nat) : Env := mkE [(1, n), (7, oc), (8, oo)] [(9, ob), (11, OB)] []

/-- Up to works' answer. -/
theorem entry {W : World} (q : Bool) (n ob oo oc : Nat) : Gets Try.prog (solo (G (Frame.enter Try.prog 3 #[(argA q).ev (entE n ob oo oc 0)] .normal) []) W) #[] fun m T => ∃ N w s9 s3 f9 f3 OB, SAt Try.prog W.heap.size W Nob 0 N m T (G f9 [f3]) w ∧ (∀ ρ, FrRel Try.prog ρ (f9R s9) f9) ∧ (∀ ρ : Env, ρ.b 11 = OB → FrRel Try.prog ρ (f3W0 s3) f3) ∧
    ObjAt w OB [(argA q).ev (entE n ob oo oc 0)] 22 ∧ W.heap.size ≤ OB := by
  have hin : AV.Ins (Below 100) [argA q] := AV.lows_in _ (by cases q <;> rfl)
  obtain ⟨e1, e2, e3, e4, e5⟩ := enterA_ok (f3IE q) (.inl rfl) hin (ρ := entE n ob oo oc 0)
  have eA : (AV.evs (entE n ob oo oc 0) [argA q]).toArray = #[(argA q).ev (entE n ob oo oc 0)] := rfl
  rw [eA] at e1
  have C0 : Tok.Core Try.prog (fun _ => none) 0 0 #[] #[G (Frame.enter Try.prog 3 #[(argA q).ev (entE n ob oo oc 0)] .normal) []] W (fun _ => 0) := Tok.begins (leavers_one Try.prog _) past_nil
  have A0 := SAt.start Try.prog _ W C0
  have A0' : SAt Try.prog W.heap.size W Nob 0 1 (solo (G (Frame.enter Try.prog 3 #[(argA q).ev (entE n ob oo oc 0)] .normal) []) W) #[] (G (Frame.enter Try.prog 3 #[(argA q).ev (entE n ob oo oc 0)] .normal) ([] ++ [])) W := A0
  refine (walkE (frs := []) (cs := []) A0' (own := fun b => W.heap.size ≤ b) A0'.new (fun n hn => hn) (a0run q) (a0IL q) a0OL e1 trivial (fun p hp => by cases hp) (fun p hp => by cases hp) (fun p hp => by cases hp) (fun p hp => by cases hp) List.nodup_nil (fun p hp => by cases hp)).trans fun m1 T1 hd => ?_
  obtain ⟨a', w1, ρ', U', A1, Ag, kp, I, Γ, Rl⟩ := hd
  obtain ⟨f9, frs, h9, hfs, rfl⟩ := Γ
  have hcur := a0cur q
  have hcl := a0cl q
  have hhp := a0hp q
  rw [hcur] at h9
  generalize hg : (a0E q).callers = cl at hcl hfs
  obtain ⟨a3, rfl, e3⟩ := map_one hcl
  obtain ⟨f3, rfl, r3⟩ := frs_one hfs
  obtain ⟨s3, t3⟩ := FrRel.toldF r3 (lv := [(1, ptr0 11)]) e3 (.inl rfl)
  have fB : findB 100 (a0E q).h.hp = some (.cells [argA q] 22) := by rw [hhp]; rfl
  have oB := obj_of_cells Rl fB
  have gB : W.heap.size ≤ ρ'.b 100 := Rl.own _ _ fB rfl
  have eB : AV.evs ρ' [argA q] = [(argA q).ev (entE n ob oo oc 0)] := evsL Ag (by cases q <;> rfl)
  rw [eB] at oB
  refine (works_run (base := w1.heap.size) (W0 := w1) (Nat.le_refl _) (SAt.on A1 (Keeps.refl _ _) (Nat.le_refl _)) h9).mono fun m2 T2 hd => ?_
  obtain ⟨N', w2, s9, f9', A2, h9'⟩ := hd
  exact ⟨N', w2, s9, s3, f9', f3, ρ'.b 100, SAt.on A2 (kp.trans (A2.keeps.mono fun b hb => Nat.le_trans A1.size hb)) (Nat.le_refl _), h9', fun ρ h => t3 ρ (by
    simp only [List.map_cons, List.map_nil, AV.evs, ptr0, AV.ev, Option.map_some, AA.ev, BR.ev, IE.ev, h]), oB.keep A2.keeps (Nat.not_le.2 oB.lt), gB⟩

/-- The answer, of a list with a place. -/
theorem gate_slice {W : World} (n ob oo oc : Nat) (o : Nat → Nat) (ho : ∀ i, o i < 256) (hc : ∀ i, i < n → W.cell? ⟨ob, oo + i, none⟩ = some (.int .u8 (o i))) : Gets Try.prog (solo (G (Frame.enter Try.prog 3 #[.slice (some ⟨ob, oo, none⟩) n oc] .normal) []) W) #[] (Answers W.heap.size W) := by
  refine (entry false n ob oo oc).trans fun m1 T1 hd => ?_
  obtain ⟨N, w, s9, s3, f9, f3, OB, A, h9, h3, oB, gB⟩ := hd
  have hm : ∀ p ∈ memW, w.cell? (p.1.ev (entE n ob oo oc OB)) = some (p.2.ev (entE n ob oo oc OB)) := fun p hp => by
    obtain rfl := List.mem_singleton.1 hp
    exact oB.cell rfl
  by_cases h40 : n ≤ 40
  · by_cases h0 : n = 0
    · subst h0
      refine walkT (frs := [f3]) A (w1N s9 s3) rfl (w1Low s9 s3) w1NO (h9 (entE 0 ob oo oc OB)) ⟨h3 _ rfl, trivial⟩ (fun p hp => ?_) hm
      simp only [bsN, List.mem_cons, List.not_mem_nil, or_false] at hp
      rcases hp with rfl | rfl | rfl <;> rfl
    · refine (walkN (cs := []) (frs := [f3]) A (w1B s9 s3) (w1Low s9 s3) (w1O false) (h9 (entE n ob oo oc OB)) ⟨h3 _ rfl, trivial⟩ (fun p hp => ?_) hm).trans fun m2 T2 hd => ?_
      · obtain rfl := List.mem_singleton.1 hp
        show decide ((((n : Nat) : Int).toNat : Int) > 40) = false
        exact decide_eq_false (by omega)
      obtain ⟨w1, ρ', hh, a1', cl, fr', frs', C⟩ := hd
      obtain ⟨rfl, rfl⟩ := C.lone
      obtain ⟨st', t'⟩ := FrRel.toldF C.fr (lv := f3L true) C.cur (.inl rfl)
      have y11 : ρ'.b 11 = OB := C.agree.b 11 (by decide)
      have f1 : findB 101 hh.hp = some (.cells [i64 (.lit 0)] 3) := by rw [C.hp]; rfl
      have f2 : findB 100 hh.hp = some (.cells [i64 (.lit 0)] 28) := by rw [C.hp]; rfl
      have o1 : ObjAt w1 (ρ'.b 101) [iV 0] 3 := obj_of_cells C.rel f1
      have o2 : ObjAt w1 (ρ'.b 100) [iV 0] 28 := obj_of_cells C.rel f2
      have g1 : W.heap.size ≤ ρ'.b 101 := Nat.le_trans A.size (C.rel.own _ _ f1 rfl)
      have g2 : W.heap.size ≤ ρ'.b 100 := Nat.le_trans A.size (C.rel.own _ _ f2 rfl)
      have hob : ob < W.heap.size := cellLt (hc 0 (by omega))
      let D : Dat := ⟨W.heap.size, n, OB, ρ'.b 100, 0, 0, 0, ob, oo, oc, 0, 0, 0, 0, o, fun _ => ρ'.b 101⟩
      have B : BodAt D W N 0 m2 T2 w1 st' fr' := by
        refine ⟨C.at', fun fs => t' _ ?_, oB.keep C.keeps (Nat.not_le.2 oB.lt), fun i hi => ?_, o2, fun j hj => ?_, fun h => absurd h (Nat.lt_irrefl 0), g2, gB, g1, fun h => absurd h (Nat.lt_irrefl 0), fun j hj => absurd hj (Nat.not_lt_zero _), hob, ho, h40⟩
        · simp only [f3L, bodL, nilA, List.map_cons, List.map_nil, AV.evs, ptr0, i64, v, TB, AV.ev, Option.map_some, Option.map_none, AA.ev, BR.ev, IE.ev, BE.ev, y11]
          rfl
        · have := hc i hi
          simp only [World.cell?] at this ⊢
          rw [C.at'.keeps.heap ob (Nat.not_le.2 hob)]
          exact this
        · obtain rfl : j = 0 := by omega
          exact o1
      refine (bod_loop n 0 (D := D) (Nat.zero_add _) B).trans fun m3 T3 hd => ?_
      obtain ⟨D', w3, st3, fr3, S, B3⟩ := hd
      obtain ⟨e1, e2, _⟩ := S
      have := all_in (i := 0) (by rw [e2]; show 0 < n; omega) B3
      rw [e1] at this
      exact this
  · refine walkT (frs := [f3]) A (w1T s9 s3) rfl (w1Low s9 s3) (w1O true) (h9 (entE n ob oo oc OB)) ⟨h3 _ rfl, trivial⟩ (fun p hp => ?_) hm
    obtain rfl := List.mem_singleton.1 hp
    show decide ((((n : Nat) : Int).toNat : Int) > 40) = true
    exact decide_eq_true (by omega)

/-- The answer, of the list that is none. -/
theorem gate_nil {W : World} : Gets Try.prog (solo (G (Frame.enter Try.prog 3 #[.slice none 0 0] .normal) []) W) #[] (Answers W.heap.size W) := by
  refine (entry true 0 0 0 0).trans fun m1 T1 hd => ?_
  obtain ⟨N, w, s9, s3, f9, f3, OB, A, h9, h3, oB, gB⟩ := hd
  refine walkT (frs := [f3]) A (w2N s9 s3) rfl (w1Low s9 s3) w2NO (h9 (entE 0 0 0 0 OB)) ⟨h3 _ rfl, trivial⟩ (fun p hp => by cases hp) (fun p hp => ?_)
  obtain rfl := List.mem_singleton.1 hp
  exact oB.cell rfl

/-- One good run. -/
theorem good_of {W : World} {args : Array Value} (h : Gets Try.prog (solo (G (Frame.enter Try.prog 3 args .normal) []) W) #[] (Answers W.heap.size W)) :
    ∃ M last o w' t', runNT Try.prog (M + 1) (solo (G (Frame.enter Try.prog 3 args .normal) []) W) #[] = (.ended o w', t') ∧ runN Try.prog M (solo (G (Frame.enter Try.prog 3 args .normal) []) W) = .next last ∧
      step Try.prog last = .ended o w' ∧ Conc.Good Try.prog (fun v W' => v = .bool true ∧ Keeps (fun n => W.heap.size ≤ n) W W') last o w' t' :=
  good_after h fun m' T' hd => by
    obtain ⟨N, a, w, A, hE⟩ := hd
    exact A.finish (fun _ => rfl) hE one3
end Go.Proofs.Ythaddgfbohmfoaa
/-
  GateRounds: for every list of numbers: bodies that only add go round by round, each that has something left, rising; the law answers true, on every schedule, without a data race; the argument reads as it did. Conditions: none.
-/
set_option maxRecDepth 100000
set_option linter.unusedVariables false
set_option linter.unusedSimpArgs false
namespace Go.Proofs.Ythaddgfbohmfoaa
open Go.ChangeShapes Go.WideShapes Go.ChangeAt Go.RowKit Go.Conc Go.Proofs.Ythaddgfbohmfoaa.SX Go.ChangeMaps

theorem kept {W W' : World} {may : MemPlace → Prop} (h : Keeps (fun n => W.heap.size ≤ n) W W') : W.keptBut W' may := by
  refine ⟨h.os, h.output, fun i hi => ?_⟩
  have e := h.heap i (Nat.not_le.2 hi)
  rw [e]
  split
  · rename_i e1 e2
    cases e1.symm.trans e2
    exact ⟨rfl, rfl, rfl, fun _ _ => rfl⟩
  · rename_i e1 e2
    cases e1.symm.trans e2
    exact .inr ⟨rfl, rfl⟩
  · rfl
theorem Try.cells5 : Try.prog.cellsOf 5 = 1 := by kernel_rfl

theorem gateRounds_lifted (os : Os) (started : os.Started) (H : Type) (enc : TypeId × Value → H) :
    ReturnsInLeavingWide {} Try.checked os 3 .any (Rows.gateRoundsSpec.pre6 enc Try.prog Try.f3 Rows.gateRoundsRow.domain false) (Rows.gateRoundsSpec.post enc Try.prog Try.f3 false true false false) := by
  refine returnsInLeavingWide_of_change_sized (C := Try.checked) Try.own started Try.func3
    (ChangeSpec.witness6 (enc := enc) (C := Try.checked) false ⟨#[], #[.slice none 0 0], []⟩ 8 (by kernel_rfl) (by kernel_rfl) (by kernel_rfl) (by kernel_rfl)) ?_
  intro W base args ds gs before hval0 hW _ _ _
  have hval : ∀ (j : Nat) t v, Try.f3.params[j]? = some t → args[j]? = some v → Value.okWide Try.prog W .any base t v := hval0
  have hW' := hW
  obtain ⟨p, q, hA0, hV, rfl, _, _⟩ := hW
  have hA : DataW.TrodAll enc Try.prog W 0 (fun _ => true) true Try.f3.params.toList args.toList ds p := hA0
  rw [Try.params3] at hA hval
  obtain ⟨v0, d0, rfl, rfl, h0⟩ := trodAll_one hA
  obtain ⟨rfl, rfl⟩ := trodVars_none hV
  obtain ⟨a0, len, cap, rfl⟩ := okWide_slice Try.underlying22 (hval 0 22 v0 rfl rfl)
  obtain ⟨fuel, hf⟩ := h0
  clear hA0 hval0
  simp only [List.append_nil] at hW'
  rcases open_ints Try.underlying22 Try.underlying5 Try.cells5 hf with ⟨hcs, hx⟩ | ⟨a, len', cap', zs, hcs, _, hl, hm, hz, hx, hcell, hwz⟩
  · simp [Value.cells] at hcs
    obtain ⟨rfl, rfl, rfl⟩ := hcs
    simp only [Prod.mk.injEq] at hx
    obtain ⟨rfl, rfl⟩ := hx
    obtain ⟨M, last, o, w', t', r1, r2, r3, r4⟩ := good_of (W := W) gate_nil
    refine ⟨M, last, o, w', t', r1, r2, r3, r4.mono fun v hF => ?_⟩
    obtain ⟨rfl, hk⟩ := hF
    have t0 : DataW.Trod enc Try.prog w' 0 (fun b => decide (b < W.heap.size)) true 22 (.slice none 0 0) .nil [] := ⟨1, by simp [DataW.trod, Try.underlying22, Value.cells]⟩
    exact ⟨_, _, _, [], _, [], hW', trodAll_mk1 (shut_bool Try.underlying4 true), trodAll_mk1 t0, rfl, kept hk, fun h => by cases h⟩
  · simp [Value.cells] at hcs
    obtain ⟨rfl, rfl, rfl⟩ := hcs
    simp only [Prod.mk.injEq] at hx
    obtain ⟨rfl, rfl⟩ := hx
    simp only [if_true] at hz
    have hok : Cell.ok Try.prog W .any base 22 (.slice (some a) len cap) := by
      have := hval 0 22 (.slice (some a) len cap) rfl rfl
      simpa only [Value.okWide, Cell.okWide, Try.underlying22] using this
    have hspot : a.spot = none := by
      simp only [Cell.ok, Try.underlying22] at hok
      exact hok.2.2.2.1
    obtain ⟨ob, oo, spot⟩ := a
    dsimp only at hspot
    subst hspot
    have hcell' : ∀ j, j < zs.length → W.cell? ⟨ob, oo + j, none⟩ = some (.int .u8 (zs.getD j 0)) := fun j hj => by rw [← add_plain]; exact hcell j hj
    have hrange : ∀ j, 0 ≤ zs.getD j 0 ∧ zs.getD j 0 < 256 := fun j => by
      by_cases hj : j < zs.length
      · have hm : zs.getD j 0 ∈ zs := by
          rw [List.getD_eq_getElem?_getD, List.getElem?_eq_getElem hj]
          exact List.getElem_mem hj
        have := hwz _ hm
        simp only [Lit.wf, Bool.and_eq_true, decide_eq_true_eq] at this
        have h1 : IntKind.min .u8 = 0 := rfl
        have h2 : IntKind.max .u8 = 255 := rfl
        omega
      · rw [List.getD_eq_getElem?_getD, List.getElem?_eq_none (by omega)]
        exact ⟨Int.le_refl _, by decide⟩
    obtain ⟨M, last, o, w', t', r1, r2, r3, r4⟩ := good_of (W := W) (gate_slice len ob oo cap (fun j => (zs.getD j 0).toNat) (fun j => by have := hrange j; omega) (fun j hj => by
      rw [hcell' j (by omega)]
      have := hrange j
      rw [Int.toNat_of_nonneg this.1]))
    refine ⟨M, last, o, w', t', r1, r2, r3, r4.mono fun v hF => ?_⟩
    obtain ⟨rfl, hk⟩ := hF
    have hcell2 : ∀ j, j < zs.length → w'.cell? ⟨ob, oo + j, none⟩ = some (.int .u8 (zs.getD j 0)) := fun j hj => by
      have h := hcell' j hj
      have hlt : ob < W.heap.size := cellLt h
      simp only [World.cell?] at h ⊢
      rw [hk.heap _ (Nat.not_le.2 hlt)]
      exact h
    have hsp : zs.length = (if (fun b => decide (b < W.heap.size)) ob then cap else len) := by
      by_cases h0 : 0 < zs.length
      · have hlt : ob < W.heap.size := cellLt (hcell' 0 h0)
        simp [hlt, hz]
      · split <;> omega
    have t0 := shut_ints' (enc := enc) (P := Try.prog) (w := w') (base := 0) (spare := fun b => decide (b < W.heap.size)) (held := true) (b := ob) (off := oo) (len := len) (cap := cap) (zs := zs) 0 Try.underlying22 Try.underlying5 Try.cells5 (Nat.zero_le ob) hl hm hsp hcell2 hwz
    have t1 : DataW.Trod enc Try.prog w' 0 (fun b => decide (b < W.heap.size)) true 22 (.slice (some ⟨ob, oo, none⟩) len cap) (.slice (lits .u8 (zs.take len)) (lits .u8 (zs.drop len))) (MemPlace.row ⟨ob, oo, none⟩ zs.length) := ⟨2, by simpa [Value.cells] using t0⟩
    exact ⟨_, _, _, [], _, [], hW', trodAll_mk1 (shut_bool Try.underlying4 true), trodAll_mk1 t1, rfl, kept hk, fun h => by cases h⟩

theorem gateRounds_holds : Rows.GateRoundsSaid :=
  OpenClaim.holds_of_wide_leaving 3 Try.f3 rfl rfl rfl rfl rfl rfl rfl ⟨rfl, rfl, rfl, rfl, rfl⟩ rfl rfl rfl rfl rfl (by kernel_rfl) Try.func3 (by kernel_rfl)
    (of_decide_eq_true (by kernel_rfl)) (by unfold Func.isWrapper; first | (rw [if_pos (by decide +kernel)]; kernel_rfl) | (rw [if_neg (by decide +kernel)]; exact ⟨rfl, rfl⟩))
    (fun os started H enc _ => gateRounds_lifted os started H enc)

end Go.Proofs.Ythaddgfbohmfoaa
