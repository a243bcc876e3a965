/-
  The way of a loose goroutine to its seat.
-/
import Derived.Test.YtcpiafgkmakdiaaSxLoose
set_option linter.unusedSectionVars false
set_option linter.unusedVariables false
set_option linter.unusedSimpArgs false
namespace Go.Proofs.Ytcpiafgkmakdiaa.SX
open Go.Conc

/-- Numbers in use, of the frames alone. -/
structure LIds (U : Nat → Prop) (c : ACfg) : Prop where
  cur : c.cur.In U
  callers : ∀ fr ∈ c.callers, fr.In U

section
variable {P : Program} {main : Bool} {O : Orc} {ext : Ext} {U : Nat → Prop} {ρ : Env} {cs : List Frame}
variable {fn : FuncId} {nt : Nat} {tmps : TT} {todo todo' : List Item} {defers : List AD} {kind : CallKind} {callers : List AFrame} {h : AH}

theorem lg_run {g : Goroutine} : LGam P ρ ⟨⟨fn, nt, tmps, todo, defers, .run, kind⟩, callers, h⟩ cs g ↔
    ∃ tm frs, TmpR ρ nt tmps tm ∧ (kind = .normal ∨ kind = .deferred) ∧ (∃ f, P.funcs[fn]? = some f) ∧ FrRels P ρ callers frs ∧ g = G ((mkF fn kind).at ⟨tm, defers.map (AD.ev ρ)⟩ todo) (frs ++ cs) := by
  constructor
  · rintro ⟨fr, frs, ⟨tm, td, i, rfl⟩, hc, rfl⟩
    have : td = todo := i.todo rfl
    subst this
    exact ⟨tm, frs, i.tmps, i.kind, i.fn, hc, rfl⟩
  · rintro ⟨tm, frs, h1, h2, h3, hc, rfl⟩
    exact ⟨_, frs, ⟨tm, todo, ⟨h1, h2, fun _ => rfl, h3⟩, rfl⟩, hc, rfl⟩

/-- What a loose step is: one record behind it, in whatever world that is known so. -/
def LPost (P : Program) (main : Bool) (O : Orc) (U : Nat → Prop) (ρ : Env) (cs : List Frame) (c' : ACfg) (g : Goroutine) : Prop :=
  g.status = .running ∧ ∃ g', LIds U c' ∧ LGam P ρ c' cs g' ∧ ∀ w, Known O ρ w → ∃ es, stepG P main g w = .go g' w es ∧ ∀ e ∈ es, Reads O ρ e

theorem lpost_to {g : Goroutine} (I : LIds U ⟨⟨fn, nt, tmps, todo, defers, .run, kind⟩, callers, h⟩) (Γ : LGam P ρ ⟨⟨fn, nt, tmps, todo, defers, .run, kind⟩, callers, h⟩ cs g)
    (hs : ∀ w tm cs', stepG P main (G ((mkF fn kind).at ⟨tm, defers.map (AD.ev ρ)⟩ todo) cs') w = .go (G ((mkF fn kind).at ⟨tm, defers.map (AD.ev ρ)⟩ todo') cs') w #[]) :
    LPost P main O U ρ cs ⟨⟨fn, nt, tmps, todo', defers, .run, kind⟩, callers, h⟩ g := by
  obtain ⟨tm, frs, h1, h2, h3, hc, rfl⟩ := lg_run.1 Γ
  exact ⟨rfl, _, ⟨⟨I.cur.tmps, I.cur.defers, trivial⟩, I.callers⟩, lg_run.2 ⟨tm, frs, h1, h2, h3, hc, rfl⟩, fun w _ => ⟨#[], hs w tm _, (by simp)⟩⟩

theorem lstep_ok (S : Sound P O ext) (hO : O.In U) {c c' : ACfg} (he : lstep? P O ext c = .ok c') (I : LIds U c) {g : Goroutine} (Γ : LGam P ρ c cs g) {w₀ : World} (k₀ : Known O ρ w₀) : LPost P main O U ρ cs c' g := by
  obtain ⟨⟨fn, nt, tmps, todo, defers, mode, kind⟩, callers, h⟩ := c
  unfold lstep? at he
  dsimp only at he
  split at he
  · split at he
    · rename_i ops is kk
      split at he
      · cases he; exact lpost_to I Γ fun _ _ _ => stepG_region_end
      · rename_i i rest
        split at he
        · cases he
        · rename_i o ho
          split at he
          · rename_i hg hl
            rw [Bool.and_eq_true] at hl
            obtain ⟨tm, frs, h1, h2, h3, hc, rfl⟩ := lg_run.1 Γ
            have hw : Region.wanted o (yielded ops tm) = true := by unfold Region.wanted; rw [hg]
            have hke : (mkF fn kind).kind ≠ .early := by rcases h2 with rfl | rfl <;> simp [mkF]
            split at he
            · rename_i v h' hop
              cases he
              have hv : v.In U := (loose_op (ds := defers.map (AD.ev ρ)) S hO h1 I.cur.tmps hl.1 hl.2 hop k₀).2.2
              obtain ⟨tm', e, h1'⟩ := put_tmps (v := v) h1 (defers.map (AD.ev ρ)) o.dst
              refine ⟨rfl, _, ⟨⟨putA_in I.cur.tmps hv h1.le, I.cur.defers, trivial⟩, I.callers⟩, lg_run.2 ⟨tm', frs, h1', h2, h3, hc, rfl⟩, fun w k => ?_⟩
              obtain ⟨⟨nx, hr, ρ', A, hi⟩, hes, _⟩ := loose_op (ds := defers.map (AD.ev ρ)) S hO h1 I.cur.tmps hl.1 hl.2 hop k
              have hi' : nx = .value (v.ev ρ') := hi
              rw [AV.ev_agree A v hv] at hi'
              subst hi'
              rw [← e]
              exact ⟨_, stepG_value ho hw hke hr, fun e he => hes e (mem_listed he)⟩
            · rename_i d h' hop
              cases he
              have hv : d.In U := (loose_op (ds := defers.map (AD.ev ρ)) S hO h1 I.cur.tmps hl.1 hl.2 hop k₀).2.2
              obtain ⟨tm', e, h1'⟩ := put_tmps (v := undefA) h1 ((d :: defers).map (AD.ev ρ)) o.dst
              refine ⟨rfl, _, ⟨⟨putA_in I.cur.tmps (by simp [undefA, AV.In, AV.Ins]) h1.le, ?_, trivial⟩, I.callers⟩, lg_run.2 ⟨tm', frs, h1', h2, h3, hc, rfl⟩, fun w k => ?_⟩
              · intro x hx
                rcases List.mem_cons.1 hx with rfl | hx
                · exact hv
                · exact I.cur.defers x hx
              · obtain ⟨⟨nx, hr, ρ', A, hi⟩, hes, _⟩ := loose_op (ds := defers.map (AD.ev ρ)) S hO h1 I.cur.tmps hl.1 hl.2 hop k
                have hi' : nx = .defer (d.ev ρ') := hi
                rw [AD.ev_agree A hv] at hi'
                subst hi'
                rw [← e]
                exact ⟨_, stepG_defer ho hw hke hr, fun e he => hes e (mem_listed he)⟩
            · cases he
            · cases he
          · cases he
    · cases he; exact lpost_to I Γ fun _ _ _ => stepG_inBlock
    · cases he; exact lpost_to I Γ fun _ _ _ => stepG_inScope
    · split at he
      · cases he; exact lpost_to I Γ fun _ _ _ => stepG_skip
      · cases he; exact lpost_to I Γ fun _ _ _ => stepG_seq
      · cases he; exact lpost_to I Γ fun _ _ _ => stepG_block
      · cases he; exact lpost_to I Γ fun _ _ _ => stepG_scope
      · cases he; exact lpost_to I Γ fun _ _ _ => stepG_region
      · cases he
    · cases he
  · cases he

/-- The places that are known. -/
def stillOf (O : Orc) (ρ : Env) (l : Loc) : Prop := ∃ p ∈ O.mem, l = .cell (p.1.ev ρ)

theorem reads_evC {B : Nat} (hB : ∀ p ∈ O.mem, (p.1.ev ρ).block < B) {e : Event} (h : Reads O ρ e) : EvC (stillOf O ρ) B e := by
  obtain ⟨p, hp, rfl⟩ := h
  exact ⟨_, rfl, ⟨p, hp, rfl⟩, hB p hp⟩

theorem lrun_goes (S : Sound P O ext) (hO : O.In U) {B : Nat} (hB : ∀ p ∈ O.mem, (p.1.ev ρ).block < B) : ∀ {n : Nat} {c c' : ACfg}, lrun? P O ext n c = .ok c' → LIds U c → ∀ {g : Goroutine} {w : World}, LGam P ρ c cs g → ∀ {w₀ : World}, Known O ρ w₀ →
    Goes P main (RK (Known O ρ)) (DS (stillOf O ρ) B) (fun g _ => LIds U c' ∧ LGam P ρ c' cs g) n g w := by
  intro n
  induction n with
  | zero =>
    intro c c' he I g w Γ w₀ k₀
    have : (Except.ok c : M ACfg) = .ok c' := he
    cases this
    exact fun w₁ _ => ⟨I, Γ⟩
  | succ n ih =>
    intro c c' he I g w Γ w₀ k₀
    have he' : (match lstep? P O ext c with
      | .ok c => lrun? P O ext n c
      | .error e => .error e) = .ok c' := he
    split at he'
    · rename_i c1 hs
      obtain ⟨hrun, g', I', Γ', hst⟩ := lstep_ok (main := main) S hO hs I Γ k₀
      refine .inr ⟨hrun, fun w₁ k => ?_⟩
      obtain ⟨es, hst, hes⟩ := hst w₁ k
      rw [hst]
      exact ⟨⟨rfl, fun e he => reads_evC hB (hes e he)⟩, ih he' I' Γ' k₀⟩
    · cases he'
end
end Go.Proofs.Ytcpiafgkmakdiaa.SX
