/-
  A drawn region as a whole; every step; runs.
-/
import Derived.Test.YtmnahfonnljobaaDoorSxStep3
set_option linter.unusedSectionVars false
set_option linter.unusedVariables false
set_option linter.unusedSimpArgs false
namespace Go.Proofs.YtmnahfonnljobaaDoor.SX
open Go.Conc

section
variable {K : Ctx} {main : Bool} {nt : Nat} {ops : Array Oper}

theorem Next.before {U : Nat → Prop} {ρ ρ' : Env} {cs : List Frame} {w w' w'' : World} {h0 : AH} {c : ACfg} {g'' : Goroutine} (A : Agree U ρ ρ') (k : Keeps K.own w w') (n : Next K U ρ' cs w' h0 c g'' w'') : Next K U ρ cs w h0 c g'' w'' := by
  obtain ⟨ρ'', a1, a2, a3, a4, a5⟩ := n
  exact ⟨ρ'', A.trans a1 (fun _ x => x), k.trans a2, a3, a4, a5⟩

theorem Next.grow {U : Nat → Prop} {ρ ρ' : Env} {cs : List Frame} {w w' w'' : World} {h0 h1 : AH} {c : ACfg} {g'' : Goroutine} (A : Agree U ρ ρ') (k : Keeps K.own w w') (gr : Grows K U h0 h1)
    (n : Next K (plus U h0.nb h1.nb) ρ' cs w' h1 c g'' w'') : Next K U ρ cs w h0 c g'' w'' := by
  obtain ⟨ρ'', a1, a2, a3, a4, a5⟩ := n
  exact ⟨ρ'', A.trans a1 plus_sub, k.trans a2, gr.trans a3, a4.congr fun n => plus_plus gr.nb a3.nb n, a5⟩

theorem ARNext.before {U : Nat → Prop} {ρ ρ' : Env} {cs : List Frame} {w w' w'' : World} {h0 : AH} {fn : FuncId} {todo : List Item} {defers : List AD} {kind : CallKind} {callers : List AFrame} {r : AR} {g'' : Goroutine} (A : Agree U ρ ρ') (k : Keeps K.own w w')
    (n : ARNext K U ρ' cs w' h0 fn nt todo defers kind callers r g'' w'') : ARNext K U ρ cs w h0 fn nt todo defers kind callers r g'' w'' := by
  cases r with
  | on t h => exact Next.before A k n
  | panic t c h => exact fun td => Next.before A k (n td)

theorem ARNext.grow {U : Nat → Prop} {ρ ρ' : Env} {cs : List Frame} {w w' w'' : World} {h0 h1 : AH} {fn : FuncId} {todo : List Item} {defers : List AD} {kind : CallKind} {callers : List AFrame} {r : AR} {g'' : Goroutine} (A : Agree U ρ ρ') (k : Keeps K.own w w') (gr : Grows K U h0 h1)
    (n : ARNext K (plus U h0.nb h1.nb) ρ' cs w' h1 fn nt todo defers kind callers r g'' w'') : ARNext K U ρ cs w h0 fn nt todo defers kind callers r g'' w'' := by
  cases r with
  | on t h => exact Next.grow A k gr n
  | panic t c h => exact fun td => Next.grow A k gr (n td)

def LvIds (K : Ctx) (U0 : Nat → Prop) (s : List Nat) (cur : AFrame) (callers : List AFrame) (h : AH) : Option AH → Prop
  | none => CIds K U0 ⟨cur, callers, h⟩
  | some h0 => Ids K U0 h0 ∧ CIds K (Us U0 h0 s) ⟨cur, callers, bare h⟩

theorem runLvls_ok (Gd : K.Good) (F : K.Facts) {ext : Ext} (X : ExtOk K ext) {call : FuncId → List AV → AH → M (AE × AH)} (C : CallOk K main call) (hops : ops.size ≤ 65536) :
    ∀ {n : Nat} {fork : Option AH} {L : Lvl} {r : AR}, runLvls K.P K.O ext call nt ops n fork L = .ok r →
      ∃ N, ∀ s t h, (s, t, h) ∈ L → ∀ {fn defers kind callers U0 ρ cs g w l k}, (∀ j ∈ s, j < ops.size) → Sched ops s l →
        LvIds K U0 s ⟨fn, nt, t, .inRegion ops l :: k, defers, .run, kind⟩ callers h fork → Gam K ρ ⟨⟨fn, nt, t, .inRegion ops l :: k, defers, .run, kind⟩, callers, h⟩ cs g w →
        Walk K.P main (DK K) (ARNext K U0 ρ cs w (fork.getD h) fn nt k defers kind callers r) N g w := by
  intro n
  induction n with
  | zero => intro fork L r he; simp only [runLvls] at he; cases he
  | succ n ih =>
    intro fork L r he
    simp only [runLvls] at he
    split at he
    · rename_i s t h h0
      obtain ⟨N, hN⟩ := ih he
      refine ⟨N, fun s' t' h' hm {fn defers kind callers U0 ρ cs g w l k} hb hs I Γ => ?_⟩
      cases List.mem_singleton.1 hm
      obtain ⟨I0, I⟩ := I
      have hst : ops.size * stride h0 ≤ h0.lim - h0.nb := Nat.le_trans (Nat.mul_le_mul_right _ hops) (Nat.mul_div_le _ _)
      have hI : CIds K (plus U0 h0.nb (rangeBack h0 ops.size h).nb) ⟨⟨fn, nt, t, .inRegion ops l :: k, defers, .run, kind⟩, callers, rangeBack h0 ops.size h⟩ := by
        refine I.lax rfl (fun m x => ?_) fun m x1 x2 x3 => ?_
        · rcases x with x | ⟨j, j1, j2, j3⟩
          · exact .inl x
          · refine .inr ⟨by omega, Nat.lt_of_lt_of_le j3 (Nat.add_le_add_left (Nat.mul_le_mul_right _ (hb j j1)) _)⟩
        · have hx1 : h0.nb + ops.size * stride h0 ≤ m := x1
          rcases x3 with x | x
          · exact I0.fresh m (by omega) x2 x
          · have := x.2; exact absurd this (Nat.not_lt.2 x1)
      have gr : Grows K U0 h0 (rangeBack h0 ops.size h) := ⟨Nat.le_add_right _ _, rfl, hI.ids⟩
      have := hN s t _ (List.mem_singleton.2 rfl) hb hs hI (Γ.hp rfl)
      exact this.weaken fun g' w' x => ARNext.grow (Agree.refl _ _) (Keeps.refl _ _) gr x
    · rename_i s t h
      split at he
      · rename_i hr
        cases he
        refine ⟨1, fun s' t' h' hm {fn defers kind callers U0 ρ cs g w l k} hb hs I Γ => ?_⟩
        cases List.mem_singleton.1 hm
        cases l with
        | cons i l => have := hs.1; rw [hr] at this; cases this
        | nil => exact leads_to (fun ρ tm w cs R T => stepG_region_end) U0 ρ cs g w I Γ
      · rename_i i hr
        have front : ∀ {l}, Sched ops s l → ∃ l', l = i :: l' ∧ Sched ops (i :: s) l' := fun {l} hs => by
          cases l with
          | nil => have : readyIn ops s = [] := hs; rw [hr] at this; cases this
          | cons j l =>
            have := hs.1
            rw [hr] at this
            obtain rfl := List.mem_singleton.1 this
            exact ⟨l, rfl, hs.2⟩
        have hi : i < ops.size := (readyIn_mem (s := s) (by rw [hr]; exact List.mem_singleton.2 rfl)).1
        split at he
        · cases he
        · rename_i t' c h' hop
          cases he
          obtain ⟨N, hN⟩ := opFull_ok Gd F X C hop
          refine ⟨N, fun s' t' h' hm {fn defers kind callers U0 ρ cs g w l k} hb hs I Γ => ?_⟩
          cases List.mem_singleton.1 hm
          obtain ⟨l', rfl, hs'⟩ := front hs
          exact hN I Γ
        · rename_i t' h' hop
          obtain ⟨N, hN⟩ := opFull_ok Gd F X C hop
          obtain ⟨M, hM⟩ := ih he
          refine ⟨N + M, fun s' t2 h2 hm {fn defers kind callers U0 ρ cs g w l k} hb hs I Γ => ?_⟩
          cases List.mem_singleton.1 hm
          obtain ⟨l', rfl, hs'⟩ := front hs
          refine Walk.trans (fun g' w' nx => ?_) (hN I Γ)
          obtain ⟨ρ', a1, a2, a3, a4, a5⟩ := nx
          refine (hM (i :: s) t' h' (List.mem_singleton.2 rfl) ?_ hs' a4 a5).weaken fun g2 w2 x => ARNext.grow a1 a2 a3 x
          intro j hj
          rcases List.mem_cons.1 hj with rfl | hj
          · exact hi
          · exact hb j hj
      · rename_i hn1 hn2
        split at he
        · rename_i L' hst
          obtain ⟨_, N, hN⟩ := stepOne_ok Gd F X C hops hst
          obtain ⟨M, hM⟩ := ih he
          refine ⟨N + M, fun s' t2 h2 hm {fn defers kind callers U0 ρ cs g w l k} hb hs I Γ => ?_⟩
          cases List.mem_singleton.1 hm
          cases l with
          | nil => exact absurd hs hn1
          | cons i l =>
            obtain ⟨hi1, hi2⟩ := readyIn_mem hs.1
            have I' : CIds K U0 ⟨⟨fn, nt, t, .inRegion ops (i :: l) :: k, defers, .run, kind⟩, callers, h⟩ := I
            refine Walk.trans (fun g' w' fk => ?_) (hN i hs.1 hi1 hi2 I'.ids (I'.lax rfl (fun n x => .inl x) fun n x1 x2 => by simp [bare] at x2) Γ)
            obtain ⟨s', t', h', b1, b2, ρ', b3, b4, b5, b6⟩ := fk
            refine (hM s' t' h' b1 (fun j hj => ?_) (hs.2.congr b2) ⟨I'.ids, b5⟩ b6).weaken fun g2 w2 x => ARNext.before b3 b4 x
            rcases List.mem_cons.1 ((b2 j).2 hj) with rfl | hj
            · exact hi1
            · exact hb j hj
        · cases he
    · rename_i h0 hn
      split at he
      · rename_i L' hst
        obtain ⟨_, N, hN⟩ := stepLvl_ok Gd F X C hops hst
        obtain ⟨M, hM⟩ := ih he
        refine ⟨N + M, fun s' t2 h2 hm {fn defers kind callers U0 ρ cs g w l k} hb hs I Γ => ?_⟩
        obtain ⟨c1, c2⟩ := hN s' t2 h2 hm
        cases l with
        | nil => exact absurd hs c1
        | cons i l =>
          obtain ⟨hi1, hi2⟩ := readyIn_mem hs.1
          obtain ⟨I0, I⟩ := I
          refine Walk.trans (fun g' w' fk => ?_) (c2 i hs.1 I0 I Γ)
          obtain ⟨s', t', h', b1, b2, ρ', b3, b4, b5, b6⟩ := fk
          refine (hM s' t' h' b1 (fun j hj => ?_) (hs.2.congr b2) ⟨I0, b5⟩ b6).weaken fun g2 w2 x => ARNext.before b3 b4 x
          rcases List.mem_cons.1 ((b2 j).2 hj) with rfl | hj
          · exact hi1
          · exact hb j hj
      · cases he
    · cases he

/-! ### The steps of a frame that runs -/
theorem stepG_inScope {P : Program} {b : Frame} {a : Act} {k : List Item} {cs : List Frame} {w : World} {c : Code} : stepG P main (G (b.at a (.inScope c :: k)) cs) w = .go (G (b.at a k) cs) w := by simp [G, stepG, stepG.exec, Frame.at]
theorem stepG_scope {P : Program} {b : Frame} {a : Act} {k : List Item} {cs : List Frame} {w : World} {c : Code} : stepG P main (G (b.at a (.code (.scope c) :: k)) cs) w = .go (G (b.at a (.code c :: .inScope c :: k)) cs) w := by simp [G, stepG, stepG.exec, Frame.at]
theorem stepG_goto {P : Program} {b : Frame} {a : Act} {k k' : List Item} {cs : List Frame} {w : World} {l : Nat} (h : gotoIn l k = some k') : stepG P main (G (b.at a (.code (.goto l) :: k)) cs) w = .go (G (b.at a k') cs) w := by simp [G, stepG, stepG.exec, Frame.at, h]

theorem stepG_drawn {P : Program} {b : Frame} {a : Act} {k : List Item} {cs : List Frame} {w : World} {id : Nat} (hm : P.follows .mixedOrders = true) :
    ∃ d t, stepG P main (G (b.at a (.code (.region id ops true) :: k)) cs) w = .go (G (b.at a (.inRegion ops (Region.schedule true ops t) :: k)) cs) (drawnAt w d) := by
  have hq : wq P (fun _ => True) (fun _ _ => False) (choose (.order b.fn id)) (fun t w' => ∃ d, w' = drawnAt w d) w := by
    rw [wq_choose]
    split
    · exact ⟨w.drawn, rfl⟩
    · exact fun n => ⟨w.drawn + 1, rfl⟩
  have := (wq_run hq).1
  generalize hr : (choose (.order b.fn id)).run P w = r at this
  cases r with
  | ok t w' =>
    obtain ⟨d, rfl⟩ := this
    exact ⟨d, t, by simp [G, stepG, stepG.exec, Frame.at, hr, hm]⟩
  | halt x w' => cases x <;> exact this.elim

theorem drawn_ok (Gd : K.Good) (F : K.Facts) {ext : Ext} (X : ExtOk K ext) {call : FuncId → List AV → AH → M (AE × AH)} (C : CallOk K main call) {tmps : TT} {h : AH} {r : AR} {id : Nat} (he : drawn K.P K.O ext call nt ops tmps h = .ok r) :
    ∃ N, ∀ {fn defers kind callers U ρ cs g w k}, CIds K U ⟨⟨fn, nt, tmps, .code (.region id ops true) :: k, defers, .run, kind⟩, callers, h⟩ → Gam K ρ ⟨⟨fn, nt, tmps, .code (.region id ops true) :: k, defers, .run, kind⟩, callers, h⟩ cs g w →
      Walk K.P main (DK K) (ARNext K U ρ cs w h fn nt k defers kind callers r) N g w := by
  unfold drawn at he
  split at he
  · rename_i hops
    obtain ⟨N, hN⟩ := runLvls_ok Gd F X C hops he
    refine ⟨1 + N, fun {fn defers kind callers U ρ cs g w k} I Γ => ?_⟩
    have hs : Walk K.P main (DK K) (fun g' w' => ∃ t, Keeps K.own w w' ∧ Gam K ρ ⟨⟨fn, nt, tmps, .inRegion ops (Region.schedule true ops t) :: k, defers, .run, kind⟩, callers, h⟩ cs g' w') 1 g w := by
      refine Walk.one Γ.running fun d => ?_
      obtain ⟨R, tm, frs, h1, h2, h3, hc, rfl⟩ := gam_run.1 (Γ.drawn d)
      obtain ⟨d', t, e⟩ := stepG_drawn (main := main) (ops := ops) (b := mkF fn kind) (a := ⟨tm, defers.map (AD.ev ρ)⟩) (k := k) (cs := frs ++ cs) (w := drawnAt w d) (id := id) F.mixed
      rw [e]
      exact ⟨⟨⟨fun _ _ => rfl, Nat.le_refl _, rfl, rfl, rfl⟩, fun e he => by simp at he⟩, t, ⟨fun _ _ => rfl, Nat.le_refl _, rfl, rfl, rfl⟩, gam_run.2 ⟨R.at rfl, tm, frs, h1, h2, h3, hc, rfl⟩⟩
    refine Walk.trans (fun g' w' ⟨t, kp, Γ'⟩ => ?_) hs
    refine (hN [] tmps h (List.mem_singleton.2 rfl) (fun j hj => by cases hj) (schedule_sched ops t) (U0 := U) ⟨⟨I.cur.tmps, I.cur.defers, trivial⟩, I.callers, I.ids⟩ Γ').weaken fun g2 w2 x => ARNext.before (Agree.refl _ _) kp x
  · cases he
end

section
variable {K : Ctx} {main : Bool} {U : Nat → Prop} {ρ : Env} {cs : List Frame}
variable {fn : FuncId} {nt : Nat} {tmps : TT} {todo todo' : List Item} {defers : List AD} {kind : CallKind} {callers : List AFrame} {h : AH}
variable {k : List Item}

theorem exec_ok (Gd : K.Good) (F : K.Facts) {ext : Ext} (X : ExtOk K ext) {call : FuncId → List AV → AH → M (AE × AH)} (C : CallOk K main call) {c' : ACfg} (he : exec? K.P K.O ext call fn nt tmps todo defers kind callers h = .ok c') :
    ∃ N, Leads K main ⟨⟨fn, nt, tmps, todo, defers, .run, kind⟩, callers, h⟩ c' N := by
  unfold exec? at he
  split at he
  · cases he; exact ⟨1, leads_ret fun _ _ _ _ => stepG_end⟩
  · rename_i ops is k
    split at he
    · cases he; exact ⟨1, leads_to fun _ _ _ _ _ _ => stepG_region_end⟩
    · rename_i i rest
      split at he
      · cases he
      · rename_i o ho
        split at he
        · cases he
        · rename_i hw
          cases he
          exact ⟨1, leads_unwanted ho hw⟩
        · rename_i hw
          split at he
          · cases he
          · rename_i n h' hop
            exact ⟨1, fun U ρ cs g w I Γ => (op_step Gd F X ho hw hop I Γ).weaken fun g' w' post => upon_next he ho I post⟩
  · cases he; exact ⟨1, leads_to fun _ _ _ _ _ _ => stepG_inBlock⟩
  · cases he; exact ⟨1, leads_to fun _ _ _ _ _ _ => stepG_inScope⟩
  · cases he; exact ⟨1, leads_to fun _ _ _ _ _ _ => stepG_inLoop⟩
  · rename_i c k
    split at he
    · cases he; exact ⟨1, leads_ret fun _ _ _ _ => stepG_ret'⟩
    · cases he; exact ⟨1, leads_to fun _ _ _ _ _ _ => stepG_skip⟩
    · cases he; exact ⟨1, leads_to fun _ _ _ _ _ _ => stepG_label⟩
    · cases he; exact ⟨1, leads_to fun _ _ _ _ _ _ => stepG_seq⟩
    · rename_i x thn els
      split at he
      · rename_i b hx
        split at he
        · rename_i hb
          cases he
          refine ⟨1, leads_to fun ρ tm w cs R T => ?_⟩
          have : Act.eval ⟨tm, defers.map (AD.ev ρ)⟩ x = .bool true := by rw [evalA_ev T, hx]; simp only [AV.ev, bool_lit R hb]
          exact stepG_cond this
        · rename_i hb
          cases he
          refine ⟨1, leads_to fun ρ tm w cs R T => ?_⟩
          have : Act.eval ⟨tm, defers.map (AD.ev ρ)⟩ x = .bool false := by rw [evalA_ev T, hx]; simp only [AV.ev, bool_lit R hb]
          exact stepG_cond this
        · cases he
      · cases he
    · cases he; exact ⟨1, leads_to fun _ _ _ _ _ _ => stepG_block⟩
    · cases he; exact ⟨1, leads_to fun _ _ _ _ _ _ => stepG_loop⟩
    · cases he; exact ⟨1, leads_to fun _ _ _ _ _ _ => stepG_scope⟩
    · split at he
      · rename_i hx
        cases he
        exact ⟨1, leads_to fun _ _ _ _ _ _ => stepG_exit hx⟩
      · cases he
    · split at he
      · rename_i hx
        cases he
        exact ⟨1, leads_to fun _ _ _ _ _ _ => stepG_goto hx⟩
      · cases he
    · rename_i id ops draw
      split at he
      · cases he; exact ⟨1, leads_to fun _ _ _ _ _ _ => stepG_region⟩
      · split at he
        · rename_i t h' hd
          cases he
          obtain ⟨N, hN⟩ := drawn_ok Gd F X C (id := id) hd
          exact ⟨N, fun U ρ cs g w I Γ => hN I Γ⟩
        · rename_i t ch h' hd
          cases he
          obtain ⟨N, hN⟩ := drawn_ok Gd F X C (id := id) hd
          exact ⟨N, fun U ρ cs g w I Γ => (hN I Γ).weaken fun g' w' x => x k⟩
        · cases he
    · cases he
  · cases he

/-! ### The end of a frame -/
theorem resultsOf_ok (Gd : K.Good) {w : World} {tm : Array Value} (R : Rel K ρ h w) (T : TmpR ρ nt tmps tm) {E : Value → World → Prop} : ∀ {l : List ResultVar} {vs : List AV}, resultsOf K.P K.O h tmps l = .ok vs →
    ∀ {Q : List Value → World → Prop}, Q (AV.evs ρ vs) w → wq K.P K.Ev E (l.mapM fun | .tmp t => (pure (tm.getD t undef) : Sem Value) | .cell a t => do loadVar t (← asAddr (tm.getD a undef))) Q w
  | [], vs, he, Q, hq => by
    simp only [resultsOf] at he
    cases he
    simpa only [List.mapM_nil, wq_pure, AV.evs] using hq
  | r :: l, vs, he, Q, hq => by
    simp only [resultsOf] at he
    split at he
    · rename_i v hv
      split at he
      · rename_i vs' hvs
        cases he
        simp only [List.mapM_cons, wq_bind]
        have tail : wq K.P K.Ev E (l.mapM fun | .tmp t => (pure (tm.getD t undef) : Sem Value) | .cell a t => do loadVar t (← asAddr (tm.getD a undef))) (fun xs w => wq K.P K.Ev E (pure (v.ev ρ :: xs)) Q w) w :=
          resultsOf_ok Gd R T hvs (by rw [wq_pure]; exact hq)
        cases r with
        | tmp t =>
          simp only [resultOf] at hv
          cases hv
          simp only [wq_pure]
          rw [T.getD t]
          exact tail
        | cell a t =>
          simp only [resultOf] at hv
          split at hv
          · rename_i x hx
            simp only [wq_bind]
            rw [T.getD a, hx]
            simp only [AV.ev, Option.map_some, asAddr, wq_pure]
            exact wq_loadVar R Gd hv tail
          · cases hv
      · cases he
    · cases he

theorem resultsOf_in (I : Ids K U h) (ht : tmps.In U) : ∀ {l : List ResultVar} {vs : List AV}, resultsOf K.P K.O h tmps l = .ok vs → AV.Ins U vs
  | [], vs, he => by simp only [resultsOf] at he; cases he; trivial
  | r :: l, vs, he => by
    simp only [resultsOf] at he
    split at he
    · rename_i v hv
      split at he
      · rename_i vs' hvs
        cases he
        refine ⟨?_, resultsOf_in I ht hvs⟩
        cases r with
        | tmp t => simp only [resultOf] at hv; cases hv; exact ht t
        | cell a t =>
          simp only [resultOf] at hv
          split at hv
          · exact loadVar?_in I hv
          · cases hv
      · cases he
    · cases he

theorem results?_ok (Gd : K.Good) {v : AV} (he : results? K.P K.O h fn tmps = .ok v) : ∃ f, K.P.funcs[fn]? = some f ∧ (∀ {U}, Ids K U h → tmps.In U → v.In U) ∧
    ∀ {ρ : Env} {nt : Nat} {w : World} {tm : Array Value} {E : Value → World → Prop}, Rel K ρ h w → TmpR ρ nt tmps tm → ∀ {Q : Value → World → Prop}, Q (v.ev ρ) w → wq K.P K.Ev E (results f tm) Q w := by
  unfold results? at he
  split at he
  · rename_i f hf
    have run : ∀ {ρ : Env} {nt : Nat} {w : World} {tm : Array Value} {E : Value → World → Prop} {vs : List AV}, resultsOf K.P K.O h tmps f.results.toList = .ok vs → Rel K ρ h w → TmpR ρ nt tmps tm → ∀ {Q : Value → World → Prop},
        Q (if hs : (AV.evs ρ vs).toArray.size = 1 then (AV.evs ρ vs).toArray[0] else .tuple (AV.evs ρ vs).toArray) w → wq K.P K.Ev E (results f tm) Q w := by
      intro ρ nt w tm E vs hvs R T Q hq
      unfold results
      rw [Array.mapM_eq_mapM_toList]
      simp only [wq_bind, wq_map, wq_pure]
      exact resultsOf_ok Gd R T hvs hq
    split at he
    · rename_i v' hv
      cases he
      refine ⟨f, hf, fun I ht => (resultsOf_in I ht hv).1, fun {ρ nt w tm E} R T {Q} hq => run hv R T ?_⟩
      simpa [AV.evs] using hq
    · rename_i vs hne hv
      cases he
      refine ⟨f, hf, fun I ht => resultsOf_in I ht hv, fun {ρ nt w tm E} R T {Q} hq => run hv R T ?_⟩
      have : ¬ (AV.evs ρ vs).toArray.size = 1 := by
        simp only [List.size_toArray, evs_length]
        intro h1
        obtain ⟨x, rfl⟩ := List.length_eq_one_iff.1 h1
        exact hne x rfl
      rw [dif_neg this]
      exact hq
    · cases he
  · cases he
end
end Go.Proofs.YtmnahfonnljobaaDoor.SX
