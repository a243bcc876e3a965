/-
  A loose goroutine at its seat; its leaving.
-/
import Derived.Test.YtcpiafgkmakdiaaSxLoose2
set_option linter.unusedSectionVars false
set_option linter.unusedVariables false
set_option linter.unusedSimpArgs false
namespace Go.Proofs.Ytcpiafgkmakdiaa.SX
open Go.Conc

theorem runT_pureRun {α β : Type} {P : Program} (m : Sem α) (f : α → Sem β) : ∀ {v : α}, pureRun P m = some v → ∀ (w : World) (es : Array Event), (m.bind f).runT P w es = (f v).runT P w es := by
  induction m with
  | pure a => intro v h w es; simp only [pureRun] at h; cases h; rfl
  | program k ih => intro v h w es; simp only [pureRun] at h; exact ih P h w es
  | _ => intro v h; simp [pureRun] at h

theorem recv_runT {P : Program} {f : Operand → Value} {o : Oper} {t : TypeId} {x : Operand} {ok : Bool} {d : ChanDir} {elem : TypeId} {z : Value} (hop : o.op = .recv t x ok) (hu : P.underlying t = some (.chan d elem)) (hz : pureRun P (zeroValue elem) = some z) (w : World) (es : Array Event) :
    (execOp f o).runT P w es = (.ok (.comm #[{ chan := f x, send := none, zero := z }] true (.recv ok)) w, es) := by
  unfold execOp
  rw [hop]
  have h1 : pureRun P (underlying t) = some (.chan d elem) := by
    show pureRun P (match P.underlying t with | some d => pure d | none => stuck "no such type") = _
    rw [hu]; rfl
  show ((underlying t).bind _).runT P w es = _
  rw [runT_pureRun _ _ h1]
  show ((zeroValue elem).bind _).runT P w es = _
  rw [runT_pureRun _ _ hz]
  rfl

section
variable {P : Program} {main : Bool} {O : Orc} {ext : Ext} {U : Nat → Prop} {ρ : Env} {cs : List Frame}

theorem atIn_recv {c : ACfg} {r : BR} {z : Value} {ok : Bool} (he : recvAt? P c = some (r, z, ok)) {g : Goroutine} (Γ : LGam P ρ c cs g) {K : World → Prop} {Still : Loc → Prop} {B : Nat} {home : Goroutine → Prop} (hh : home g) :
    AtIn P main K Still B (Conc.Seat.one (r.ev ρ) z ok home) g g := by
  obtain ⟨⟨fn, nt, tmps, todo, defers, mode, kind⟩, callers, h⟩ := c
  unfold recvAt? at he
  split at he
  · rename_i fn' nt' tmps' ops i rest k defers' kind' callers' h' hc
    cases hc
    split at he
    · cases he
    · rename_i o ho
      split at he
      · rename_i t x ok' hg hop
        split at he
        · rename_i r' d elem hx hu
          split at he
          · rename_i z' hz
            cases he
            obtain ⟨tm, frs, h1, h2, h3, hc, rfl⟩ := lg_run.1 Γ
            have hw : Region.wanted o (yielded ops tm) = true := by unfold Region.wanted; rw [hg]
            have hke : (mkF fn kind).kind ≠ .early := by rcases h2 with rfl | rfl <;> simp [mkF]
            have hex : (⟨tm, defers.map (AD.ev ρ)⟩ : Act).eval x = .chan (some (r.ev ρ)) := by rw [evalA_ev h1, hx]; rfl
            have hR := fun w es => recv_runT (f := (⟨tm, defers.map (AD.ev ρ)⟩ : Act).eval) hop hu hz w es
            refine atIn_of ho hw hke (fun w => ?_) (fun w => ?_) hh
            · have := congrArg Prod.fst (hR w #[])
              rw [Sem.runT_fst] at this
              rw [this, hex]; rfl
            · exact congrArg Prod.snd (hR w #[])
          · cases he
        · cases he
      · cases he
  · cases he

theorem goes_weaken {R : World → World → Prop} {D : World → World → Array Event → Prop} {A B : Goroutine → World → Prop} (h : ∀ g w, A g w → B g w) : ∀ {n : Nat} {g : Goroutine} {w : World}, Goes P main R D A n g w → Goes P main R D B n g w := by
  intro n
  induction n with
  | zero => intro g w x; exact fun w₁ hr => h _ _ (x w₁ hr)
  | succ n ih =>
    intro g w x
    rcases x with x | ⟨hs, x⟩
    · exact .inl fun w₁ hr => h _ _ (x w₁ hr)
    · exact .inr ⟨hs, fun w₁ hr => goes_mono (x w₁ hr) fun g' w' es ⟨a, b⟩ => ⟨a, ih b⟩⟩

/-- On the way to its seat. -/
theorem sits_of (S : Sound P O ext) (hO : O.In U) {B : Nat} (hB : ∀ p ∈ O.mem, (p.1.ev ρ).block < B) {n : Nat} {c c' : ACfg} (he : lrun? P O ext n c = .ok c') {r : BR} {z : Value} {ok : Bool} (hr : recvAt? P c' = some (r, z, ok)) (I : LIds U c) {g : Goroutine} (Γ : LGam P ρ c cs g) {w₀ : World} (k₀ : Known O ρ w₀) :
    Sits P main (Known O ρ) (stillOf O ρ) B (Conc.Seat.one (r.ev ρ) z ok (fun g => LIds U c' ∧ LGam P ρ c' cs g)) (n + 1) g := by
  have G := lrun_goes (main := main) S hO hB he I (w := w₀) Γ k₀
  refine .inl ⟨n, w₀, rfl, ?_⟩
  exact goes_weaken (fun g w ⟨I', Γ'⟩ => ⟨g, atIn_recv hr Γ' ⟨I', Γ'⟩⟩) G

/-- Served: what it yields goes to its place. -/
theorem served_ok {c : ACfg} {g : Goroutine} (Γ : LGam P ρ c cs g) (I : LIds U c) {v : AV} (hv : v.In U) {fr : AFrame} (hf : finishA c.cur v = .ok fr) (h : AH) : LIds U ⟨fr, c.callers, h⟩ ∧ LGam P ρ ⟨fr, c.callers, h⟩ cs (Conc.served g (v.ev ρ)) := by
  obtain ⟨⟨fn, nt, tmps, todo, defers, mode, kind⟩, callers, h0⟩ := c
  obtain ⟨fn', nt', tmps', ops, i, rest, k, defers', kind', e1, rfl⟩ := finishA_ok hf
  cases e1
  obtain ⟨tm, frs, h1, h2, h3, hc, rfl⟩ := lg_run.1 Γ
  obtain ⟨tm', e, h1'⟩ := put_tmps (v := v) h1 (defers.map (AD.ev ρ)) ((ops[i]?).bind (·.dst))
  refine ⟨⟨⟨putA_in I.cur.tmps hv h1.le, I.cur.defers, trivial⟩, I.callers⟩, lg_run.2 ⟨tm', frs, h1', h2, h3, hc, ?_⟩⟩
  show { G ((mkF fn kind).at ⟨tm, defers.map (AD.ev ρ)⟩ (.inRegion ops (i :: rest) :: k)) (frs ++ cs) with frame := ((mkF fn kind).at ⟨tm, defers.map (AD.ev ρ)⟩ (.inRegion ops (i :: rest) :: k)).finish (v.ev ρ), status := .running, offers := none } = _
  rw [Frame.finish_at, e]
  rfl

/-- The frame below a goroutine's function. -/
def baseF (P : Program) : Frame := { (default : Frame) with fn := P.funcs.size, defers := [], mode := .panicking [goexitEntry] }

theorem stepG_base (w : World) : stepG P main (G (baseF P) []) w = .go { frame := baseF P, callers := [], status := .finished, dying := none } w #[] := by
  simp [G, stepG, unwind, baseF, Frame.catches, goexitEntry]
  rfl

theorem leave_quits (hO : O.mem = []) (hb : O.bs = []) (hi : O.is = []) (S : Sound P O ext) (hU : O.In U) : ∀ {n : Nat} {c : ACfg}, leave? P O ext n c = true → LIds U c → ∀ {g : Goroutine}, LGam P ρ c [baseF P] g → ∃ m, QuitsD P m 0 g := by
  have kn : ∀ w, Known O ρ w := fun w => ⟨(fun p hp => by rw [hb] at hp; cases hp), (fun p hp => by rw [hi] at hp; cases hp), (fun p hp => by rw [hO] at hp; cases hp)⟩
  intro n
  induction n with
  | zero => intro c he; cases he
  | succ n ih =>
    intro c he I g Γ
    obtain ⟨⟨fn, nt, tmps, todo, defers, mode, kind⟩, callers, h⟩ := c
    have he' : leave1? P O ext (leave? P O ext n) ⟨⟨fn, nt, tmps, todo, defers, mode, kind⟩, callers, h⟩ = true := he
    clear he
    unfold leave1? at he'
    dsimp only at he'
    split at he'
    · have ret : ∀ {todo' : List Item}, leave? P O ext n ⟨⟨fn, nt, tmps, todo', defers, .returning, kind⟩, callers, h⟩ = true → (∀ w tm cs', stepG P false (G ((mkF fn kind).at ⟨tm, defers.map (AD.ev ρ)⟩ todo) cs') w = .go (G { (mkF fn kind).at ⟨tm, defers.map (AD.ev ρ)⟩ todo with mode := .returning } cs') w #[]) → ∃ m, QuitsD P m 0 g := by
        intro todo' hl hs
        obtain ⟨tm, frs, h1, h2, h3, hc, rfl⟩ := lg_run.1 Γ
        obtain ⟨m, hm⟩ := ih hl ⟨⟨I.cur.tmps, I.cur.defers, trivial⟩, I.callers⟩ (g := G { (mkF fn kind).at ⟨tm, defers.map (AD.ev ρ)⟩ todo with mode := .returning } (frs ++ [baseF P])) ⟨_, frs, ⟨tm, todo, ⟨h1, h2, (fun x => by cases x), h3⟩, rfl⟩, hc, rfl⟩
        exact ⟨m + 1, .ctl rfl (fun w => hs w tm _) hm⟩
      split at he'
      · exact ret he' fun _ _ _ => stepG_end
      · exact ret he' fun _ _ _ => stepG_ret'
      · split at he'
        · rename_i c1 hs
          obtain ⟨hrun, g', I', Γ', hst⟩ := lstep_ok (main := false) S hU hs I Γ (kn default)
          obtain ⟨m, hm⟩ := ih he' I' Γ'
          refine ⟨m + 1, .ctl hrun (fun w => ?_) hm⟩
          obtain ⟨es, e1, e2⟩ := hst w (kn w)
          have : es = #[] := by
            rcases Nat.eq_zero_or_pos es.size with h0 | h0
            · exact Array.eq_empty_of_size_eq_zero h0
            · obtain ⟨p, hp, _⟩ := e2 _ (Array.getElem_mem h0)
              rw [hO] at hp; cases hp
          rw [e1, this]
        · cases he'
    · split at he'
      · rename_i f hf
        obtain ⟨fr, frs, ⟨tm, td, is, rfl⟩, hc, rfl⟩ := Γ
        split at he'
        · rename_i hres
          cases frs with
          | cons a b => exact absurd hc (by simp [FrRels])
          | nil =>
            have hr : f.results = #[] := by apply Array.toList_inj.1; exact hres
            refine ⟨1 + 1, .ctl rfl (fun w => ?_) (.ctl rfl (fun w => stepG_base w) (show QuitsD P 0 0 _ from ⟨rfl, rfl⟩))⟩
            have := stepG_back (main := false) (P := P) (cs := []) (caller := baseF P) (fr := frameOf ρ ⟨fn, nt, tmps, todo, [], .returning, .deferred⟩ tm td) (w := w) rfl rfl rfl hf (results_none hr _ P w)
            rw [events_results_none hr, seen_none] at this
            exact this
        · rename_i caller rest hres
          cases frs with
          | nil => exact absurd hc (by simp [FrRels])
          | cons c1 frs =>
            obtain ⟨hc1, hc⟩ := hc
            have hr : f.results = #[] := by apply Array.toList_inj.1; exact hres
            obtain ⟨m, hm⟩ := ih he' ⟨backTo_in (I.callers _ (List.mem_cons_self ..)), fun fr hf => I.callers fr (List.mem_cons_of_mem _ hf)⟩ (g := _) ⟨_, frs, back_ok hc1, hc, rfl⟩
            refine ⟨m + 1, .ctl rfl (fun w => ?_) hm⟩
            have := stepG_back (main := false) (P := P) (cs := frs ++ [baseF P]) (caller := c1) (fr := frameOf ρ ⟨fn, nt, tmps, todo, [], .returning, .deferred⟩ tm td) (w := w) rfl rfl rfl hf (results_none hr _ P w)
            rw [events_results_none hr, seen_none] at this
            exact this
        · cases he'
      · cases he'
    · cases he'
end
end Go.Proofs.Ytcpiafgkmakdiaa.SX
