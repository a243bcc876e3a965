/-
  A drawn region as a whole; every step; runs.
-/
import Derived.Test.YtcpiafgkmakdiaaSxQuiet
set_option linter.unusedSectionVars false
set_option linter.unusedVariables false
set_option linter.unusedSimpArgs false
namespace Go.Proofs.Ytcpiafgkmakdiaa.SX
open Go.Conc

section
variable {K : Ctx} {main : Bool} {nt : Nat} {ops : Array Oper}

theorem Next.before {U : Nat → Prop} {ρ ρ' : Env} {cs : List Frame} {w w' w'' : World} {h0 : AH} {c : ACfg} {g'' : Goroutine} (A : Agree U ρ ρ') (k : Keeps K.own w w') (n : Next K U ρ' cs w' h0 c g'' w'') : Next K U ρ cs w h0 c g'' w'' := by
  obtain ⟨ρ'', a1, a2, a3, a4, a5⟩ := n
  exact ⟨ρ'', A.trans a1 (fun _ x => x), k.trans a2, a3, a4, a5⟩

theorem Next.grow {U : Nat → Prop} {ρ ρ' : Env} {cs : List Frame} {w w' w'' : World} {h0 h1 : AH} {c : ACfg} {g'' : Goroutine} (A : Agree U ρ ρ') (k : Keeps K.own w w') (gr : Grows K U h0 h1)
    (n : Next K (plus U h0.nb h1.nb) ρ' cs w' h1 c g'' w'') : Next K U ρ cs w h0 c g'' w'' := by
  obtain ⟨ρ'', a1, a2, a3, a4, a5⟩ := n
  exact ⟨ρ'', A.trans a1 plus_sub, k.trans a2, gr.trans a3, a4.congr fun n => plus_plus gr.nb a3.nb n, a5⟩

theorem ARNext.before {U : Nat → Prop} {ρ ρ' : Env} {cs : List Frame} {w w' w'' : World} {h0 : AH} {fn : FuncId} {todo : List Item} {defers : List AD} {kind : CallKind} {callers : List AFrame} {r : AR} {g'' : Goroutine} (A : Agree U ρ ρ') (k : Keeps K.own w w')
    (n : ARNext K U ρ' cs w' h0 fn nt todo defers kind callers r g'' w'') : ARNext K U ρ cs w h0 fn nt todo defers kind callers r g'' w'' := by
  cases r with
  | on t h => exact Next.before A k n
  | panic t c h => exact fun td => Next.before A k (n td)

theorem ARNext.grow {U : Nat → Prop} {ρ ρ' : Env} {cs : List Frame} {w w' w'' : World} {h0 h1 : AH} {fn : FuncId} {todo : List Item} {defers : List AD} {kind : CallKind} {callers : List AFrame} {r : AR} {g'' : Goroutine} (A : Agree U ρ ρ') (k : Keeps K.own w w') (gr : Grows K U h0 h1)
    (n : ARNext K (plus U h0.nb h1.nb) ρ' cs w' h1 fn nt todo defers kind callers r g'' w'') : ARNext K U ρ cs w h0 fn nt todo defers kind callers r g'' w'' := by
  cases r with
  | on t h => exact Next.grow A k gr n
  | panic t c h => exact fun td => Next.grow A k gr (n td)

def LvIds (K : Ctx) (U0 : Nat → Prop) (s : List Nat) (cur : AFrame) (callers : List AFrame) (h : AH) : Option AH → Prop
  | none => CIds K U0 ⟨cur, callers, h⟩
  | some h0 => Ids K U0 h0 ∧ CIds K (Us U0 h0 s) ⟨cur, callers, bare h⟩

theorem runLvls_ok (Gd : K.Good) (F : K.Facts) {ext : Ext} (X : ExtOk K ext) {call : FuncId → List AV → AH → M (AE × AH)} (C : CallOk K main call) (hops : ops.size ≤ 65536) :
    ∀ {n : Nat} {fork : Option AH} {L : Lvl} {r : AR}, runLvls K.P K.O ext call nt ops n fork L = .ok r →
      ∃ N, ∀ s t h, (s, t, h) ∈ L → ∀ {fn defers kind callers U0 ρ cs g w l k}, (∀ j ∈ s, j < ops.size) → Sched ops s l →
        LvIds K U0 s ⟨fn, nt, t, .inRegion ops l :: k, defers, .run, kind⟩ callers h fork → Gam K ρ ⟨⟨fn, nt, t, .inRegion ops l :: k, defers, .run, kind⟩, callers, h⟩ cs g w →
        Walk K.P main (DK K) (ARNext K U0 ρ cs w (fork.getD h) fn nt k defers kind callers r) N g w := by
  intro n
  induction n with
  | zero => intro fork L r he; simp only [runLvls] at he; cases he
  | succ n ih =>
    intro fork L r he
    simp only [runLvls] at he
    split at he
    · rename_i s t h h0
      obtain ⟨N, hN⟩ := ih he
      refine ⟨N, fun s' t' h' hm {fn defers kind callers U0 ρ cs g w l k} hb hs I Γ => ?_⟩
      cases List.mem_singleton.1 hm
      obtain ⟨I0, I⟩ := I
      have hst : ops.size * stride h0 ≤ h0.lim - h0.nb := Nat.le_trans (Nat.mul_le_mul_right _ hops) (Nat.mul_div_le _ _)
      have hI : CIds K (plus U0 h0.nb (rangeBack h0 ops.size h).nb) ⟨⟨fn, nt, t, .inRegion ops l :: k, defers, .run, kind⟩, callers, rangeBack h0 ops.size h⟩ := by
        refine I.lax rfl (fun m x => ?_) fun m x1 x2 x3 => ?_
        · rcases x with x | ⟨j, j1, j2, j3⟩
          · exact .inl x
          · refine .inr ⟨by omega, Nat.lt_of_lt_of_le j3 (Nat.add_le_add_left (Nat.mul_le_mul_right _ (hb j j1)) _)⟩
        · have hx1 : h0.nb + ops.size * stride h0 ≤ m := x1
          rcases x3 with x | x
          · exact I0.fresh m (by omega) x2 x
          · have := x.2; exact absurd this (Nat.not_lt.2 x1)
      have gr : Grows K U0 h0 (rangeBack h0 ops.size h) := ⟨Nat.le_add_right _ _, rfl, hI.ids⟩
      have := hN s t _ (List.mem_singleton.2 rfl) hb hs hI (Γ.hp rfl)
      exact this.weaken fun g' w' x => ARNext.grow (Agree.refl _ _) (Keeps.refl _ _) gr x
    · rename_i s t h
      split at he
      · rename_i hr
        cases he
        refine ⟨1, fun s' t' h' hm {fn defers kind callers U0 ρ cs g w l k} hb hs I Γ => ?_⟩
        cases List.mem_singleton.1 hm
        cases l with
        | cons i l => have := hs.1; rw [hr] at this; cases this
        | nil => exact leads_to (fun ρ tm w cs R T => stepG_region_end) U0 ρ cs g w I Γ
      · rename_i i hr
        have front : ∀ {l}, Sched ops s l → ∃ l', l = i :: l' ∧ Sched ops (i :: s) l' := fun {l} hs => by
          cases l with
          | nil => have : readyIn ops s = [] := hs; rw [hr] at this; cases this
          | cons j l =>
            have := hs.1
            rw [hr] at this
            obtain rfl := List.mem_singleton.1 this
            exact ⟨l, rfl, hs.2⟩
        have hi : i < ops.size := (readyIn_mem (s := s) (by rw [hr]; exact List.mem_singleton.2 rfl)).1
        split at he
        · cases he
        · rename_i t' c h' hop
          cases he
          obtain ⟨N, hN⟩ := opFull_ok Gd F X C hop
          refine ⟨N, fun s' t' h' hm {fn defers kind callers U0 ρ cs g w l k} hb hs I Γ => ?_⟩
          cases List.mem_singleton.1 hm
          obtain ⟨l', rfl, hs'⟩ := front hs
          exact hN I Γ
        · rename_i t' h' hop
          obtain ⟨N, hN⟩ := opFull_ok Gd F X C hop
          obtain ⟨M, hM⟩ := ih he
          refine ⟨N + M, fun s' t2 h2 hm {fn defers kind callers U0 ρ cs g w l k} hb hs I Γ => ?_⟩
          cases List.mem_singleton.1 hm
          obtain ⟨l', rfl, hs'⟩ := front hs
          refine Walk.trans (fun g' w' nx => ?_) (hN I Γ)
          obtain ⟨ρ', a1, a2, a3, a4, a5⟩ := nx
          refine (hM (i :: s) t' h' (List.mem_singleton.2 rfl) ?_ hs' a4 a5).weaken fun g2 w2 x => ARNext.grow a1 a2 a3 x
          intro j hj
          rcases List.mem_cons.1 hj with rfl | hj
          · exact hi
          · exact hb j hj
      · rename_i hn1 hn2
        split at he
        · rename_i L' hst
          obtain ⟨_, N, hN⟩ := stepOne_ok Gd F X C hops hst
          obtain ⟨M, hM⟩ := ih he
          refine ⟨N + M, fun s' t2 h2 hm {fn defers kind callers U0 ρ cs g w l k} hb hs I Γ => ?_⟩
          cases List.mem_singleton.1 hm
          cases l with
          | nil => exact absurd hs hn1
          | cons i l =>
            obtain ⟨hi1, hi2⟩ := readyIn_mem hs.1
            have I' : CIds K U0 ⟨⟨fn, nt, t, .inRegion ops (i :: l) :: k, defers, .run, kind⟩, callers, h⟩ := I
            refine Walk.trans (fun g' w' fk => ?_) (hN i hs.1 hi1 hi2 I'.ids (I'.lax rfl (fun n x => .inl x) fun n x1 x2 => by simp [bare] at x2) Γ)
            obtain ⟨s', t', h', b1, b2, ρ', b3, b4, b5, b6⟩ := fk
            refine (hM s' t' h' b1 (fun j hj => ?_) (hs.2.congr b2) ⟨I'.ids, b5⟩ b6).weaken fun g2 w2 x => ARNext.before b3 b4 x
            rcases List.mem_cons.1 ((b2 j).2 hj) with rfl | hj
            · exact hi1
            · exact hb j hj
        · cases he
    · rename_i h0 hn
      split at he
      · rename_i L' hst
        obtain ⟨_, N, hN⟩ := stepLvl_ok Gd F X C hops hst
        obtain ⟨M, hM⟩ := ih he
        refine ⟨N + M, fun s' t2 h2 hm {fn defers kind callers U0 ρ cs g w l k} hb hs I Γ => ?_⟩
        obtain ⟨c1, c2⟩ := hN s' t2 h2 hm
        cases l with
        | nil => exact absurd hs c1
        | cons i l =>
          obtain ⟨hi1, hi2⟩ := readyIn_mem hs.1
          obtain ⟨I0, I⟩ := I
          refine Walk.trans (fun g' w' fk => ?_) (c2 i hs.1 I0 I Γ)
          obtain ⟨s', t', h', b1, b2, ρ', b3, b4, b5, b6⟩ := fk
          refine (hM s' t' h' b1 (fun j hj => ?_) (hs.2.congr b2) ⟨I0, b5⟩ b6).weaken fun g2 w2 x => ARNext.before b3 b4 x
          rcases List.mem_cons.1 ((b2 j).2 hj) with rfl | hj
          · exact hi1
          · exact hb j hj
      · cases he
    · cases he

/-! ### The steps of a frame that runs -/
theorem stepG_inScope {P : Program} {b : Frame} {a : Act} {k : List Item} {cs : List Frame} {w : World} {c : Code} : stepG P main (G (b.at a (.inScope c :: k)) cs) w = .go (G (b.at a k) cs) w := by simp [G, stepG, stepG.exec, Frame.at]
theorem stepG_scope {P : Program} {b : Frame} {a : Act} {k : List Item} {cs : List Frame} {w : World} {c : Code} : stepG P main (G (b.at a (.code (.scope c) :: k)) cs) w = .go (G (b.at a (.code c :: .inScope c :: k)) cs) w := by simp [G, stepG, stepG.exec, Frame.at]
theorem stepG_goto {P : Program} {b : Frame} {a : Act} {k k' : List Item} {cs : List Frame} {w : World} {l : Nat} (h : gotoIn l k = some k') : stepG P main (G (b.at a (.code (.goto l) :: k)) cs) w = .go (G (b.at a k') cs) w := by simp [G, stepG, stepG.exec, Frame.at, h]

theorem stepG_drawn {P : Program} {b : Frame} {a : Act} {k : List Item} {cs : List Frame} {w : World} {id : Nat} (hm : P.follows .mixedOrders = true) :
    ∃ d t, stepG P main (G (b.at a (.code (.region id ops true) :: k)) cs) w = .go (G (b.at a (.inRegion ops (Region.schedule true ops t) :: k)) cs) (drawnAt w d) := by
  have hq : wq P (fun _ => True) (fun _ _ => False) (choose (.order b.fn id)) (fun t w' => ∃ d, w' = drawnAt w d) w := by
    rw [wq_choose]
    split
    · exact ⟨w.drawn, rfl⟩
    · exact fun n => ⟨w.drawn + 1, rfl⟩
  have := (wq_run hq).1
  generalize hr : (choose (.order b.fn id)).run P w = r at this
  cases r with
  | ok t w' =>
    obtain ⟨d, rfl⟩ := this
    exact ⟨d, t, by simp [G, stepG, stepG.exec, Frame.at, hr, hm]⟩
  | halt x w' => cases x <;> exact this.elim

theorem draw_step (F : K.Facts) {tmps : TT} {h : AH} {id : Nat} {fn : FuncId} {defers : List AD} {kind : CallKind} {callers : List AFrame} {ρ : Env} {cs : List Frame} {g : Goroutine} {w : World} {k : List Item}
    (Γ : Gam K ρ ⟨⟨fn, nt, tmps, .code (.region id ops true) :: k, defers, .run, kind⟩, callers, h⟩ cs g w) :
    Walk K.P main (DK K) (fun g' w' => ∃ t, Keeps K.own w w' ∧ Gam K ρ ⟨⟨fn, nt, tmps, .inRegion ops (Region.schedule true ops t) :: k, defers, .run, kind⟩, callers, h⟩ cs g' w') 1 g w := by
  refine Walk.one Γ.running fun d => ?_
  obtain ⟨R, tm, frs, h1, h2, h3, hc, rfl⟩ := gam_run.1 (Γ.drawn d)
  obtain ⟨d', t, e⟩ := stepG_drawn (main := main) (ops := ops) (b := mkF fn kind) (a := ⟨tm, defers.map (AD.ev ρ)⟩) (k := k) (cs := frs ++ cs) (w := drawnAt w d) (id := id) F.mixed
  rw [e]
  exact ⟨⟨⟨fun _ _ => rfl, Nat.le_refl _, rfl, rfl, rfl⟩, fun e he => (by simp at he), fun _ _ _ _ x => x⟩, t, ⟨fun _ _ => rfl, Nat.le_refl _, rfl, rfl, rfl⟩, gam_run.2 ⟨R.at rfl, tm, frs, h1, h2, h3, hc, rfl⟩⟩

theorem drawnOld_ok (Gd : K.Good) (F : K.Facts) {ext : Ext} (X : ExtOk K ext) {call : FuncId → List AV → AH → M (AE × AH)} (C : CallOk K main call) {tmps : TT} {h : AH} {r : AR} {id : Nat} (he : drawnOld K.P K.O ext call nt ops tmps h = .ok r) :
    ∃ N, ∀ {fn defers kind callers U ρ cs g w k}, CIds K U ⟨⟨fn, nt, tmps, .code (.region id ops true) :: k, defers, .run, kind⟩, callers, h⟩ → Gam K ρ ⟨⟨fn, nt, tmps, .code (.region id ops true) :: k, defers, .run, kind⟩, callers, h⟩ cs g w →
      Walk K.P main (DK K) (ARNext K U ρ cs w h fn nt k defers kind callers r) N g w := by
  unfold drawnOld at he
  split at he
  · rename_i hops
    obtain ⟨N, hN⟩ := runLvls_ok Gd F X C hops he
    refine ⟨1 + N, fun {fn defers kind callers U ρ cs g w k} I Γ => ?_⟩
    have hs := draw_step (main := main) F Γ
    refine Walk.trans (fun g' w' ⟨t, kp, Γ'⟩ => ?_) hs
    refine (hN [] tmps h (List.mem_singleton.2 rfl) (fun j hj => by cases hj) (schedule_sched ops t) (U0 := U) ⟨⟨I.cur.tmps, I.cur.defers, trivial⟩, I.callers, I.ids⟩ Γ').weaken fun g2 w2 x => ARNext.before (Agree.refl _ _) kp x
  · cases he
end

section
variable {K : Ctx} {main : Bool} {nt : Nat} {ops : Array Oper}

theorem gam_tt {ρ : Env} {fn : FuncId} {t t' : TT} {todo : List Item} {defers : List AD} {mode : AMode} {kind : CallKind} {callers : List AFrame} {h : AH} {cs : List Frame} {g : Goroutine} {w : World} (e : ∀ n, t'.get n = t.get n)
    (Γ : Gam K ρ ⟨⟨fn, nt, t', todo, defers, mode, kind⟩, callers, h⟩ cs g w) : Gam K ρ ⟨⟨fn, nt, t, todo, defers, mode, kind⟩, callers, h⟩ cs g w := by
  obtain ⟨R, fr, frs, ⟨tm, td, is, rfl⟩, hc, rfl⟩ := Γ
  exact ⟨R, _, frs, ⟨tm, td, ⟨⟨is.tmps.size, is.tmps.le, fun n hn => by rw [is.tmps.get n hn, e], fun n hn => by rw [← e]; exact is.tmps.out n hn⟩, is.kind, is.todo, is.fn⟩, rfl⟩, hc, rfl⟩

theorem cids_tt {U : Nat → Prop} {fn : FuncId} {t t' : TT} {todo : List Item} {defers : List AD} {mode : AMode} {kind : CallKind} {callers : List AFrame} {h : AH} (e : ∀ n, t'.get n = t.get n)
    (I : CIds K U ⟨⟨fn, nt, t', todo, defers, mode, kind⟩, callers, h⟩) : CIds K U ⟨⟨fn, nt, t, todo, defers, mode, kind⟩, callers, h⟩ :=
  ⟨⟨fun n => by have := I.cur.tmps n; rw [e] at this; exact this, I.cur.defers, I.cur.mode⟩, I.callers, I.ids⟩

theorem gam_nt {ρ : Env} {fn : FuncId} {t : TT} {todo : List Item} {defers : List AD} {mode : AMode} {kind : CallKind} {callers : List AFrame} {h : AH} {cs : List Frame} {g : Goroutine} {w : World} (Γ : Gam K ρ ⟨⟨fn, nt, t, todo, defers, mode, kind⟩, callers, h⟩ cs g w) : nt ≤ 60000 := by
  obtain ⟨R, fr, frs, ⟨tm, td, is, rfl⟩, hc, rfl⟩ := Γ
  exact is.tmps.le

/-- Where the pending ones have been drawn that come first. -/
def PendPost (K : Ctx) (nt : Nat) (ops : Array Oper) (U : Nat → Prop) (s : List Nat) (t : TT) (h : AH) (ρ : Env) (cs : List Frame) (w : World) (fn : FuncId) (k : List Item) (defers : List AD) (kind : CallKind) (callers : List AFrame) (g' : Goroutine) (w' : World) : Prop :=
  ∃ r' tr' l' ρ', Near ops nt s r' t tr' ∧ Sched ops r' l' ∧ Agree U ρ ρ' ∧ Keeps K.own w w' ∧ CIds K U ⟨⟨fn, nt, tr', .inRegion ops l' :: k, defers, .run, kind⟩, callers, bare h⟩ ∧ Gam K ρ' ⟨⟨fn, nt, tr', .inRegion ops l' :: k, defers, .run, kind⟩, callers, h⟩ cs g' w' ∧
    (l' = [] ∨ ∃ i l'', l' = i :: l'' ∧ i ∉ s)

theorem pend (Gd : K.Good) (F : K.Facts) {ext : Ext} (X : ExtOk K ext) {call : FuncId → List AV → AH → M (AE × AH)} (C : CallOk K main call) (hok : regionOk ops (infosOf ops) = true) {s : List Nat} {m : Nat} {t : TT} {h : AH} (hc : Cons s m)
    (hq : holdsQ K.P K.O ext nt ops m t (bare h) (infosOf ops) = true) {U : Nat → Prop} {cs : List Frame} {fn : FuncId} {k : List Item} {defers : List AD} {kind : CallKind} {callers : List AFrame} :
    ∀ {l r : List Nat} {tr : TT} {ρ : Env} {g : Goroutine} {w : World}, Near ops nt s r t tr → Sched ops r l → CIds K U ⟨⟨fn, nt, tr, .inRegion ops l :: k, defers, .run, kind⟩, callers, bare h⟩ →
      Gam K ρ ⟨⟨fn, nt, tr, .inRegion ops l :: k, defers, .run, kind⟩, callers, h⟩ cs g w → Walk K.P main (DK K) (PendPost K nt ops U s t h ρ cs w fn k defers kind callers) 0 g w
  | [], r, tr, ρ, g, w, N, sc, I, Γ => Walk.stop ⟨r, tr, [], ρ, N, sc, Agree.refl _ _, Keeps.refl _ _, I, Γ, .inl rfl⟩
  | i :: l, r, tr, ρ, g, w, N, sc, I, Γ => by
    by_cases hi : i ∈ s
    · obtain ⟨hir, hsc⟩ := sc
      obtain ⟨_, o, ho, _⟩ := ready_iff.1 hir
      obtain ⟨o', ho', hqo⟩ := N.quiet i hi (readyIn_mem hir).2
      rw [ho] at ho'; cases ho'
      obtain ⟨v, hv, hd⟩ := holdsQ_ok hq _ (mem_infos.2 ⟨i, o, ho, rfl⟩) hqo ((hc i).2 hi)
      have al := N.alike hok ho hir
      have hop : opFull K.P K.O ext call nt ops i tr (bare h) = .ok (.on (putA nt tr o.dst v) (bare h)) := opFull_quiet ho hqo (by
        rcases hv with ⟨a, b⟩ | ⟨a, h', b⟩
        · exact .inl ⟨by rw [al.wanted]; exact a, b⟩
        · exact .inr ⟨by rw [al.wanted]; exact a, h', by rw [op?_congr al.eval]; exact b⟩)
      obtain ⟨M, hM⟩ := opFull_ok Gd F X C hop
      refine (Walk.trans (m := 0) (fun g' w' nx => ?_) (hM I (Γ.hp rfl))).any
      obtain ⟨ρ', a1, a2, a3, a4, a5⟩ := nx
      have I' := a4.congr (U' := U) fun n => (plus_same U _ n).symm
      refine (pend Gd F X C hok hc hq (N.drawn (gam_nt Γ) ho hi hd) hsc I' (a5.hp rfl)).weaken fun g2 w2 p => ?_
      obtain ⟨r', tr', l', ρ2, b1, b2, b3, b4, b5⟩ := p
      exact ⟨r', tr', l', ρ2, b1, b2, a1.trans b3 (fun _ x => x), a2.trans b4, b5⟩
    · exact Walk.stop ⟨r, tr, i :: l, ρ, N, sc, Agree.refl _ _, Keeps.refl _ _, I, Γ, .inr ⟨i, l, rfl, hi⟩⟩

def GoodM (ops : Array Oper) (L : LvlM) : Prop := ∀ e ∈ L, Cons e.1 e.2.1 ∧ Topo ops e.1

theorem putLvlM_ok {s : List Nat} {m : Nat} {t : TT} {h : AH} : ∀ {L L' : LvlM}, putLvlM s m t h L = .ok L' → (∀ e ∈ L, e ∈ L') ∧ (GoodM ops L → Cons s m → Topo ops s → GoodM ops L') ∧ ∃ s' h', (s', m, t, h') ∈ L' ∧ h'.hp = h.hp
  | [], L', he => by
    simp only [putLvlM] at he
    cases he
    refine ⟨(fun e x => by cases x), fun _ a b e he => ?_, s, h, List.mem_singleton.2 rfl, rfl⟩
    cases List.mem_singleton.1 he
    exact ⟨a, b⟩
  | (s', m', t', h') :: L, L', he => by
    simp only [putLvlM] at he
    split at he
    · rename_i hs
      obtain rfl := Nat.eq_of_beq_eq_true hs
      split at he
      · rename_i hq
        cases he
        simp only [Bool.and_eq_true] at hq
        obtain rfl := TT.eqb_eq hq.1
        exact ⟨fun e x => x, fun a _ _ => a, s', h', List.mem_cons_self .., (hpEqb_eq hq.2).symm⟩
      · cases he
    · split at he
      · rename_i l hl
        cases he
        obtain ⟨a, ag, s2, h2, b, c⟩ := putLvlM_ok (L := L) hl
        refine ⟨fun e x => ?_, fun g1 g2 g3 e x => ?_, s2, h2, List.mem_cons_of_mem _ b, c⟩
        · rcases List.mem_cons.1 x with rfl | x
          · exact List.mem_cons_self ..
          · exact List.mem_cons_of_mem _ (a e x)
        · rcases List.mem_cons.1 x with rfl | x
          · exact g1 _ (List.mem_cons_self ..)
          · exact ag (fun e he => g1 e (List.mem_cons_of_mem _ he)) g2 g3 e x
      · cases he

theorem oneM_ok {P : Program} {O : Orc} {ext : Ext} {call : FuncId → List AV → AH → M (AE × AH)} {infos : List Info} {s : List Nat} {m : Nat} {t : TT} {h : AH} {i : Nat} {s2 : List Nat} {m2 : Nat} {t2 : TT} {h1 : AH}
    (he : oneM P O ext call nt ops infos s m t h i = .ok (s2, m2, t2, h1)) : ∃ t1, opFull P O ext call nt ops i t h = .ok (.on t1 h1) ∧ soakM P O ext nt ops (bare h1) infos (i :: s) (addM m i) t1 = .ok (s2, m2, t2) := by
  unfold oneM at he
  split at he
  · cases he
  · cases he
  · rename_i t1 h1' hop
    split at he
    · cases he
    · rename_i hs
      cases he
      exact ⟨t1, hop, hs⟩

/-- What a step of the level has made of operation i. -/
def MadeM (P : Program) (O : Orc) (ext : Ext) (call : FuncId → List AV → AH → M (AE × AH)) (nt : Nat) (ops : Array Oper) (h0 : AH) (s : List Nat) (m : Nat) (t : TT) (h : AH) (i : Nat) (L' : LvlM) : Prop :=
  ∃ t1 h1 s2 m2 t2 s' h', opFull P O ext call nt ops i t (rangeFor h0 i h) = .ok (.on t1 h1) ∧ h1.nb ≤ h1.lim ∧ soakM P O ext nt ops (bare h1) (infosOf ops) (i :: s) (addM m i) t1 = .ok (s2, m2, t2) ∧ (s', m2, t2, h') ∈ L' ∧ h'.hp = h1.hp

theorem stepOneM_ok {P : Program} {O : Orc} {ext : Ext} {call : FuncId → List AV → AH → M (AE × AH)} (hnt : nt ≤ 60000) {h0 : AH} {s : List Nat} {m : Nat} {t : TT} {h : AH} (hc : Cons s m) (tp : Topo ops s) :
    ∀ {js : List Info}, (∀ x ∈ js, x ∈ infosOf ops ∧ canM m x = true) → ∀ {L L' : LvlM}, stepOneM P O ext call nt ops (infosOf ops) h0 s m t h js L = .ok L' → (∀ e ∈ L, e ∈ L') ∧ (GoodM ops L → GoodM ops L') ∧ ∀ x ∈ js, MadeM P O ext call nt ops h0 s m t h x.1 L'
  | [], _, L, L', he => by
    simp only [stepOneM] at he
    cases he
    exact ⟨fun e x => x, fun g => g, fun x hx => by cases hx⟩
  | x :: js, hj, L, L', he => by
    simp only [stepOneM] at he
    split at he
    · cases he
    · rename_i s2 m2 t2 h1 hone
      split at he
      · rename_i hlim
        split at he
        · rename_i L1 hput
          obtain ⟨t1, hop, hso⟩ := oneM_ok hone
          obtain ⟨hx, hcan⟩ := hj x (List.mem_cons_self ..)
          obtain ⟨i, o, ho, rfl⟩ := mem_infos.1 hx
          have hr := (can_iff hc ho).1 hcan
          have S := soakM_ok hnt (fun _ x => x) (hc.add (i := i)) (show Topo ops (i :: s) from ⟨hr, tp⟩) hso
          obtain ⟨a1, a2, s', h', a3, a4⟩ := putLvlM_ok (ops := ops) hput
          obtain ⟨b1, b2, b3⟩ := stepOneM_ok hnt hc tp (fun y hy => hj y (List.mem_cons_of_mem _ hy)) he
          refine ⟨fun e x => b1 e (a1 e x), fun g => b2 (a2 g S.cons S.topo), fun y hy => ?_⟩
          rcases List.mem_cons.1 hy with rfl | hy
          · exact ⟨t1, h1, s2, m2, t2, s', h', hop, hlim, hso, b1 _ a3, a4⟩
          · exact b3 y hy
        · cases he
      · cases he

theorem stepLvlM_ok {P : Program} {O : Orc} {ext : Ext} {call : FuncId → List AV → AH → M (AE × AH)} (hnt : nt ≤ 60000) {h0 : AH} :
    ∀ {A : LvlM}, GoodM ops A → ∀ {L L' : LvlM}, stepLvlM P O ext call nt ops (infosOf ops) h0 A L = .ok L' → (∀ e ∈ L, e ∈ L') ∧ (GoodM ops L → GoodM ops L') ∧
      ∀ s m t h, (s, m, t, h) ∈ A → (infosOf ops).filter (canM m) ≠ [] ∧ ∀ x ∈ (infosOf ops).filter (canM m), MadeM P O ext call nt ops h0 s m t h x.1 L'
  | [], _, L, L', he => by
    simp only [stepLvlM] at he
    cases he
    exact ⟨fun e x => x, fun g => g, fun _ _ _ _ x => by cases x⟩
  | (s, m, t, h) :: A, gA, L, L', he => by
    simp only [stepLvlM] at he
    split at he
    · cases he
    · rename_i hne
      split at he
      · rename_i L1 h1
        obtain ⟨hc, tp⟩ := gA _ (List.mem_cons_self ..)
        obtain ⟨a1, a2, a3⟩ := stepOneM_ok hnt hc tp (fun x hx => by
          obtain ⟨p, q⟩ := List.mem_filter.1 hx
          exact ⟨p, q⟩) h1
        obtain ⟨b1, b2, b3⟩ := stepLvlM_ok hnt (fun e he => gA e (List.mem_cons_of_mem _ he)) he
        refine ⟨fun e x => b1 e (a1 e x), fun g => b2 (a2 g), fun s' m' t' h' hm => ?_⟩
        rcases List.mem_cons.1 hm with hq | hm
        · cases hq
          refine ⟨hne, fun x hx => ?_⟩
          obtain ⟨t1, h1, s2, m2, t2, s', h', c1, c2, c3, c4, c5⟩ := a3 x hx
          exact ⟨t1, h1, s2, m2, t2, s', h', c1, c2, c3, b1 _ c4, c5⟩
        · exact b3 s' m' t' h' hm
      · cases he

/-- Whoever is really drawn next, and has not been reckoned, can be reckoned now, and is not quiet. -/
theorem Near.head {s r : List Nat} {m : Nat} {t tr : TT} (N : Near ops nt s r t tr) (hc : Cons s m) {i : Nat} (hi : i ∈ readyIn ops r) (hn : i ∉ s) : ∃ o, ops[i]? = some o ∧ i ∈ readyIn ops s ∧ (i, o, predMask o.after.toList, quietOp o) ∈ (infosOf ops).filter (canM m) := by
  obtain ⟨_, o, ho, hp⟩ := ready_iff.1 hi
  have hr : i ∈ readyIn ops s := ready_iff.2 ⟨hn, o, ho, fun e he hb => N.sub _ (hp e he hb)⟩
  exact ⟨o, ho, hr, List.mem_filter.2 ⟨mem_infos.2 ⟨i, o, ho, rfl⟩, (can_iff hc ho).2 hr⟩⟩

/-- One that is not quiet, really drawn: from a state of a fork to one of the next level. -/
theorem fork_step (Gd : K.Good) (F : K.Facts) {ext : Ext} (X : ExtOk K ext) {call : FuncId → List AV → AH → M (AE × AH)} (C : CallOk K main call) (hops : ops.size ≤ 65536) (hok : regionOk ops (infosOf ops) = true) {h0 : AH} {s r : List Nat} {m : Nat} {t tr : TT} {h : AH} {i : Nat} {L' : LvlM}
    (hc : Cons s m) (tp : Topo ops s) (gL : GoodM ops L') (Md : MadeM K.P K.O ext call nt ops h0 s m t h i L') (N : Near ops nt s r t tr) (hi : i ∈ readyIn ops r) (hn : i ∉ s) {U0 : Nat → Prop} {ρ : Env} {cs : List Frame} {g : Goroutine} {w : World} {fn : FuncId} {l : List Nat} {k : List Item} {defers : List AD} {kind : CallKind} {callers : List AFrame}
    (I0 : Ids K U0 h0) (I : CIds K (Us U0 h0 s) ⟨⟨fn, nt, tr, .inRegion ops (i :: l) :: k, defers, .run, kind⟩, callers, bare h⟩) (Γ : Gam K ρ ⟨⟨fn, nt, tr, .inRegion ops (i :: l) :: k, defers, .run, kind⟩, callers, h⟩ cs g w) :
    Walk K.P main (DK K) (fun g' w' => ∃ s' m' t' h' tr' ρ', (s', m', t', h') ∈ L' ∧ Near ops nt s' (i :: r) t' tr' ∧ Agree U0 ρ ρ' ∧ Keeps K.own w w' ∧ CIds K (Us U0 h0 s') ⟨⟨fn, nt, tr', .inRegion ops l :: k, defers, .run, kind⟩, callers, bare h'⟩ ∧
      Gam K ρ' ⟨⟨fn, nt, tr', .inRegion ops l :: k, defers, .run, kind⟩, callers, h'⟩ cs g' w') 0 g w := by
  obtain ⟨t1, h1, s2, m2, t2, s', h', c1, c2, c3, c4, c5⟩ := Md
  obtain ⟨o, ho, hr, _⟩ := N.head hc hi hn
  have hnt := gam_nt Γ
  obtain ⟨v, rfl, hop⟩ := opFull_alike ho (N.alike hok ho hi) c1
  have S := soakM_ok hnt (fun _ x => x) (hc.add (i := i)) (show Topo ops (i :: s) from ⟨hr, tp⟩) c3
  have hi1 := (readyIn_mem hr).1
  obtain ⟨M, hM⟩ := opFull_ok Gd F X C hop
  have I' : CIds K (Us U0 h0 s) ⟨⟨fn, nt, tr, .inRegion ops (i :: l) :: k, defers, .run, kind⟩, callers, rangeFor h0 i h⟩ :=
    I.lax rfl (fun n x => x) fun n x1 x2 => Us_fresh I0 (by omega) hn x1 x2
  have mem : ∀ j, j ∈ s2 ↔ j ∈ s' := fun j => ((S.cons j).symm).trans ((gL _ c4).1 j)
  refine ((hM I' (Γ.hp rfl)).weaken fun g' w' nx => ?_).any
  obtain ⟨ρ', a1, a2, a3, a4, a5⟩ := nx
  have NN := N.next hnt ho hn S
  have NN' : Near ops nt s' (i :: r) t2 (putA nt tr o.dst v) := ⟨fun j hj => (mem j).1 (NN.sub j hj), fun j hj hx => NN.quiet j ((mem j).2 hj) hx, fun n hlt hx => NN.same n hlt fun ⟨j, oj, x1, x2⟩ => hx ⟨j, oj, (mem j).1 x1, x2⟩, NN.out⟩
  refine ⟨s', m2, t2, h', _, ρ', c4, NN', a1.mono (fun n x => .inl x), a2, ?_, a5.hp c5⟩
  refine a4.lax c5 (fun n x => ?_) fun n x1 x2 => by simp [bare] at x2
  rcases x with (x | ⟨q, q1, q2⟩) | x
  · exact .inl x
  · exact .inr ⟨q, (mem q).1 (S.sub q (List.mem_cons_of_mem _ q1)), q2⟩
  · have hl : h1.lim = (rangeFor h0 i h).lim := a3.lim
    refine .inr ⟨i, (mem i).1 (S.sub i (List.mem_cons_self ..)), x.1, ?_⟩
    have hl2 : h1.lim = h0.nb + (i + 1) * stride h0 := hl
    have hx := x.2
    dsimp only at hx
    omega

theorem runLvlsM_ok (Gd : K.Good) (F : K.Facts) {ext : Ext} (X : ExtOk K ext) {call : FuncId → List AV → AH → M (AE × AH)} (C : CallOk K main call) (hops : ops.size ≤ 65536) (hok : regionOk ops (infosOf ops) = true) (hnt : nt ≤ 60000) :
    ∀ {n : Nat} {fork : Option AH} {L : LvlM} {R : AR}, runLvlsM K.P K.O ext call nt ops (infosOf ops) n fork L = .ok R → GoodM ops L →
      ∀ s m t h, (s, m, t, h) ∈ L → ∀ {fn defers kind callers U0 ρ cs g w l k r tr}, Near ops nt s r t tr → Sched ops r l →
        LvIds K U0 s ⟨fn, nt, tr, .inRegion ops l :: k, defers, .run, kind⟩ callers h fork → Gam K ρ ⟨⟨fn, nt, tr, .inRegion ops l :: k, defers, .run, kind⟩, callers, h⟩ cs g w →
        Walk K.P main (DK K) (ARNext K U0 ρ cs w (fork.getD h) fn nt k defers kind callers R) 0 g w := by
  intro n
  induction n with
  | zero => intro fork L R he; simp only [runLvlsM] at he; cases he
  | succ n ih =>
    intro fork L R he gL
    simp only [runLvlsM] at he
    split at he
    · cases he
    rename_i hset
    rw [List.all_eq_true] at hset
    have hold : ∀ s m t h, (s, m, t, h) ∈ L → holdsQ K.P K.O ext nt ops m t (bare h) (infosOf ops) = true := fun s m t h hm => by
      have := hset _ hm
      unfold settled at this
      rw [Bool.and_eq_true] at this
      exact this.2
    split at he
    · rename_i s m t h h0
      intro s' m' t' h' hm fn defers kind callers U0 ρ cs g w l k r tr N sc I Γ
      cases List.mem_singleton.1 hm
      obtain ⟨I0, I⟩ := I
      obtain ⟨hc, tp⟩ := gL _ (List.mem_singleton.2 rfl)
      have hst : ops.size * stride h0 ≤ h0.lim - h0.nb := Nat.le_trans (Nat.mul_le_mul_right _ hops) (Nat.mul_div_le _ _)
      have hI : CIds K (plus U0 h0.nb (rangeBack h0 ops.size h).nb) ⟨⟨fn, nt, tr, .inRegion ops l :: k, defers, .run, kind⟩, callers, rangeBack h0 ops.size h⟩ := by
        refine I.lax rfl (fun m x => ?_) fun m x1 x2 x3 => ?_
        · rcases x with x | ⟨j, j1, j2, j3⟩
          · exact .inl x
          · refine .inr ⟨by omega, Nat.lt_of_lt_of_le j3 (Nat.add_le_add_left (Nat.mul_le_mul_right _ (tp.lt j j1)) _)⟩
        · have hx1 : h0.nb + ops.size * stride h0 ≤ m := x1
          rcases x3 with x | x
          · exact I0.fresh m (by omega) x2 x
          · have := x.2; exact absurd this (Nat.not_lt.2 x1)
      have gr : Grows K U0 h0 (rangeBack h0 ops.size h) := ⟨Nat.le_add_right _ _, rfl, hI.ids⟩
      have := ih he (fun e he => by cases List.mem_singleton.1 he; exact ⟨hc, tp⟩) s m t _ (List.mem_singleton.2 rfl) N sc hI (Γ.hp rfl)
      exact this.weaken fun g' w' x => ARNext.grow (Agree.refl _ _) (Keeps.refl _ _) gr x
    · rename_i s m t h
      intro s' m' t' h' hm fn defers kind callers U0 ρ cs g w l k r tr N sc I Γ
      cases List.mem_singleton.1 hm
      obtain ⟨hc, tp⟩ := gL _ (List.mem_singleton.2 rfl)
      have I1 : CIds K U0 ⟨⟨fn, nt, tr, .inRegion ops l :: k, defers, .run, kind⟩, callers, h⟩ := I
      have Wp := pend Gd F X C hok hc (hold _ _ _ _ (List.mem_singleton.2 rfl)) N sc (I1.lax (h' := bare h) rfl (fun n x => x) fun n x1 x2 => by simp [bare] at x2) Γ
      refine (Walk.trans (m := 0) (fun g1 w1 p => ?_) Wp).any
      obtain ⟨r1, tr1, l1, ρ1, N1, sc1, A1, kp1, Ib, Γ1, hl1⟩ := p
      have J1 : CIds K U0 ⟨⟨fn, nt, tr1, .inRegion ops l1 :: k, defers, .run, kind⟩, callers, h⟩ := ⟨Ib.cur, Ib.callers, I1.ids⟩
      split at he
      · rename_i hr
        cases he
        rcases hl1 with rfl | ⟨i, l2, rfl, hi⟩
        · obtain ⟨_, _, e⟩ := N1.over tp sc1
          have L1 := leads_to (K := K) (main := main) (fn := fn) (nt := nt) (tmps := t) (todo := .inRegion ops [] :: k) (todo' := k) (defers := defers) (kind := kind) (callers := callers) (h := h) (fun ρ tm w cs R T => stepG_region_end)
          exact ((L1 U0 ρ1 cs g1 w1 (cids_tt e J1) (gam_tt e Γ1)).weaken fun g2 w2 x => ARNext.before A1 kp1 (r := .on t h) x).any
        · obtain ⟨o, _, _, hx⟩ := N1.head hc sc1.1 hi
          rw [hr] at hx; cases hx
      · rename_i x hr
        split at he
        · cases he
        · rename_i e hone
          obtain ⟨s2, m2, t2, h2⟩ := e
          obtain ⟨t1, hop, hso⟩ := oneM_ok hone
          rcases hl1 with rfl | ⟨i, l2, rfl, hi⟩
          · obtain ⟨_, e, _⟩ := N1.over tp sc1
            have hx : x ∈ (infosOf ops).filter (canM m) := by rw [hr]; exact List.mem_singleton.2 rfl
            obtain ⟨p, q⟩ := List.mem_filter.1 hx
            obtain ⟨i, o, ho, rfl⟩ := mem_infos.1 p
            have := (can_iff hc ho).1 q
            rw [e] at this; cases this
          · obtain ⟨o, ho, hrs, hx⟩ := N1.head hc sc1.1 hi
            rw [hr] at hx
            obtain rfl := List.mem_singleton.1 hx
            dsimp only at hop hso
            obtain ⟨v, rfl, hop'⟩ := opFull_alike ho (N1.alike hok ho sc1.1) hop
            have S := soakM_ok hnt (fun _ x => x) (hc.add (i := i)) (show Topo ops (i :: s) from ⟨hrs, tp⟩) hso
            obtain ⟨M, hM⟩ := opFull_ok Gd F X C hop'
            refine (Walk.trans (m := 0) (fun g2 w2 nx => ?_) (hM J1 Γ1)).any
            obtain ⟨ρ2, a1, a2, a3, a4, a5⟩ := nx
            refine (ih he (fun e he => by cases List.mem_singleton.1 he; exact ⟨S.cons, S.topo⟩) s2 m2 t2 h2 (List.mem_singleton.2 rfl) (N1.next hnt ho hi S) sc1.2 a4 a5).weaken fun g3 w3 y => ?_
            exact ARNext.before A1 kp1 (ARNext.grow a1 a2 a3 y)
      · rename_i hn1 hn2
        split at he
        · rename_i L' hst
          obtain ⟨_, g2, hmade⟩ := stepOneM_ok hnt hc tp (fun x hx => by
            obtain ⟨p, q⟩ := List.mem_filter.1 hx
            exact ⟨p, q⟩) hst
          have gL' : GoodM ops L' := g2 fun e he => by cases he
          rcases hl1 with rfl | ⟨i, l2, rfl, hi⟩
          · obtain ⟨_, e, _⟩ := N1.over tp sc1
            refine absurd (List.eq_nil_iff_forall_not_mem.2 fun x hx => ?_) hn1
            obtain ⟨p, q⟩ := List.mem_filter.1 hx
            obtain ⟨i, o, ho, rfl⟩ := mem_infos.1 p
            have := (can_iff hc ho).1 q
            rw [e] at this; cases this
          · obtain ⟨o, ho, hrs, hx⟩ := N1.head hc sc1.1 hi
            have Md := hmade _ hx
            refine (Walk.trans (m := 0) (fun g2 w2 nx => ?_) (fork_step Gd F X C hops hok hc tp gL' Md N1 sc1.1 hi J1.ids (Ib.lax rfl (fun n x => .inl x) fun n x1 x2 => by simp [bare] at x2) Γ1)).any
            obtain ⟨s3, m3, t3, h3, tr3, ρ3, b1, b2, b3, b4, b5, b6⟩ := nx
            refine (ih he gL' s3 m3 t3 h3 b1 b2 sc1.2 ⟨J1.ids, b5⟩ b6).weaken fun g3 w3 y => ?_
            exact ARNext.before A1 kp1 (ARNext.before b3 b4 y)
        · cases he
    · rename_i h0 hn
      split at he
      · rename_i L' hst
        obtain ⟨_, g2, hmade⟩ := stepLvlM_ok hnt gL hst
        have gL' : GoodM ops L' := g2 fun e he => by cases he
        intro s m t h hm fn defers kind callers U0 ρ cs g w l k r tr N sc I Γ
        obtain ⟨hc, tp⟩ := gL _ hm
        obtain ⟨hne, hmade⟩ := hmade s m t h hm
        obtain ⟨I0, I⟩ := I
        have Wp := pend Gd F X C hok hc (hold _ _ _ _ hm) N sc I Γ
        refine (Walk.trans (m := 0) (fun g1 w1 p => ?_) Wp).any
        obtain ⟨r1, tr1, l1, ρ1, N1, sc1, A1, kp1, Ib, Γ1, hl1⟩ := p
        rcases hl1 with rfl | ⟨i, l2, rfl, hi⟩
        · obtain ⟨_, e, _⟩ := N1.over tp sc1
          refine absurd (List.eq_nil_iff_forall_not_mem.2 fun x hx => ?_) hne
          obtain ⟨p, q⟩ := List.mem_filter.1 hx
          obtain ⟨i, o, ho, rfl⟩ := mem_infos.1 p
          have := (can_iff hc ho).1 q
          rw [e] at this; cases this
        · obtain ⟨o, ho, hrs, hx⟩ := N1.head hc sc1.1 hi
          have Md := hmade _ hx
          refine (Walk.trans (m := 0) (fun g2 w2 nx => ?_) (fork_step Gd F X C hops hok hc tp gL' Md N1 sc1.1 hi I0 Ib Γ1)).any
          obtain ⟨s3, m3, t3, h3, tr3, ρ3, b1, b2, b3, b4, b5, b6⟩ := nx
          refine (ih he gL' s3 m3 t3 h3 b1 b2 sc1.2 ⟨I0, b5⟩ b6).weaken fun g3 w3 y => ?_
          exact ARNext.before (A1.mono fun n x => .inl x) kp1 (ARNext.before b3 b4 y)
      · cases he
    · cases he

theorem drawn_ok (Gd : K.Good) (F : K.Facts) {ext : Ext} (X : ExtOk K ext) {call : FuncId → List AV → AH → M (AE × AH)} (C : CallOk K main call) {tmps : TT} {h : AH} {r : AR} {id : Nat} (he : drawn K.P K.O ext call nt ops tmps h = .ok r) :
    ∃ N, ∀ {fn defers kind callers U ρ cs g w k}, CIds K U ⟨⟨fn, nt, tmps, .code (.region id ops true) :: k, defers, .run, kind⟩, callers, h⟩ → Gam K ρ ⟨⟨fn, nt, tmps, .code (.region id ops true) :: k, defers, .run, kind⟩, callers, h⟩ cs g w →
      Walk K.P main (DK K) (ARNext K U ρ cs w h fn nt k defers kind callers r) N g w := by
  unfold drawn at he
  split at he
  · exact drawnOld_ok Gd F X C he
  · rename_i hb
    rw [Bool.and_eq_true] at hb
    have hops : ops.size ≤ 65536 := Nat.le_of_ble_eq_true hb.1
    split at he
    · rename_i r' hm
      cases he
      refine ⟨0, fun {fn defers kind callers U ρ cs g w k} I Γ => ?_⟩
      unfold drawnM at hm
      split at hm
      · cases hm
      · rename_i s m t hso
        have hnt := gam_nt Γ
        have S := soakM_ok hnt (fun _ x => x) cons_nil (show Topo ops [] from trivial) hso
        refine (Walk.trans (m := 0) (fun g' w' ⟨q, kp, Γ'⟩ => ?_) (draw_step (main := main) F Γ)).any
        refine (runLvlsM_ok Gd F X C hops hb.2 hnt hm (fun e he => by cases List.mem_singleton.1 he; exact ⟨S.cons, S.topo⟩) s m t h (List.mem_singleton.2 rfl) (Near.begin S) (schedule_sched ops q) (U0 := U) ⟨⟨I.cur.tmps, I.cur.defers, trivial⟩, I.callers, I.ids⟩ Γ').weaken fun g2 w2 x => ARNext.before (Agree.refl _ _) kp x
    · exact drawnOld_ok Gd F X C he
end

section
variable {K : Ctx} {main : Bool} {U : Nat → Prop} {ρ : Env} {cs : List Frame}
variable {fn : FuncId} {nt : Nat} {tmps : TT} {todo todo' : List Item} {defers : List AD} {kind : CallKind} {callers : List AFrame} {h : AH}
variable {k : List Item}

theorem exec_ok (Gd : K.Good) (F : K.Facts) {ext : Ext} (X : ExtOk K ext) {call : FuncId → List AV → AH → M (AE × AH)} (C : CallOk K main call) {c' : ACfg} (he : exec? K.P K.O ext call fn nt tmps todo defers kind callers h = .ok c') :
    ∃ N, Leads K main ⟨⟨fn, nt, tmps, todo, defers, .run, kind⟩, callers, h⟩ c' N := by
  unfold exec? at he
  split at he
  · cases he; exact ⟨1, leads_ret fun _ _ _ _ => stepG_end⟩
  · rename_i ops is k
    split at he
    · cases he; exact ⟨1, leads_to fun _ _ _ _ _ _ => stepG_region_end⟩
    · rename_i i rest
      split at he
      · cases he
      · rename_i o ho
        split at he
        · cases he
        · rename_i hw
          cases he
          exact ⟨1, leads_unwanted ho hw⟩
        · rename_i hw
          split at he
          · cases he
          · rename_i n h' hop
            split at he
            · exact ⟨1, fun U ρ cs g w I Γ => (op_step Gd F X ho hw hop I Γ).weaken fun g' w' post => upon_next he ho I post⟩
            · split at he
              · rename_i t h'' hf
                cases he
                obtain ⟨N, hN⟩ := opFull_ok Gd F X C hf
                exact ⟨N, fun U ρ cs g w I Γ => hN I Γ⟩
              · rename_i t ch h'' hf
                cases he
                obtain ⟨N, hN⟩ := opFull_ok Gd F X C hf
                exact ⟨N, fun U ρ cs g w I Γ => (hN I Γ).weaken fun g' w' x => x _⟩
              · cases he
  · cases he; exact ⟨1, leads_to fun _ _ _ _ _ _ => stepG_inBlock⟩
  · cases he; exact ⟨1, leads_to fun _ _ _ _ _ _ => stepG_inScope⟩
  · cases he; exact ⟨1, leads_to fun _ _ _ _ _ _ => stepG_inLoop⟩
  · rename_i c k
    split at he
    · cases he; exact ⟨1, leads_ret fun _ _ _ _ => stepG_ret'⟩
    · cases he; exact ⟨1, leads_to fun _ _ _ _ _ _ => stepG_skip⟩
    · cases he; exact ⟨1, leads_to fun _ _ _ _ _ _ => stepG_label⟩
    · cases he; exact ⟨1, leads_to fun _ _ _ _ _ _ => stepG_seq⟩
    · rename_i x thn els
      split at he
      · rename_i b hx
        split at he
        · rename_i hb
          cases he
          refine ⟨1, leads_to fun ρ tm w cs R T => ?_⟩
          have : Act.eval ⟨tm, defers.map (AD.ev ρ)⟩ x = .bool true := by rw [evalA_ev T, hx]; simp only [AV.ev, bool_lit R hb]
          exact stepG_cond this
        · rename_i hb
          cases he
          refine ⟨1, leads_to fun ρ tm w cs R T => ?_⟩
          have : Act.eval ⟨tm, defers.map (AD.ev ρ)⟩ x = .bool false := by rw [evalA_ev T, hx]; simp only [AV.ev, bool_lit R hb]
          exact stepG_cond this
        · cases he
      · cases he
    · cases he; exact ⟨1, leads_to fun _ _ _ _ _ _ => stepG_block⟩
    · cases he; exact ⟨1, leads_to fun _ _ _ _ _ _ => stepG_loop⟩
    · cases he; exact ⟨1, leads_to fun _ _ _ _ _ _ => stepG_scope⟩
    · split at he
      · rename_i hx
        cases he
        exact ⟨1, leads_to fun _ _ _ _ _ _ => stepG_exit hx⟩
      · cases he
    · split at he
      · rename_i hx
        cases he
        exact ⟨1, leads_to fun _ _ _ _ _ _ => stepG_goto hx⟩
      · cases he
    · rename_i id ops draw
      split at he
      · cases he; exact ⟨1, leads_to fun _ _ _ _ _ _ => stepG_region⟩
      · split at he
        · rename_i t h' hd
          cases he
          obtain ⟨N, hN⟩ := drawn_ok Gd F X C (id := id) hd
          exact ⟨N, fun U ρ cs g w I Γ => hN I Γ⟩
        · rename_i t ch h' hd
          cases he
          obtain ⟨N, hN⟩ := drawn_ok Gd F X C (id := id) hd
          exact ⟨N, fun U ρ cs g w I Γ => (hN I Γ).weaken fun g' w' x => x k⟩
        · cases he
    · cases he
  · cases he

/-! ### The end of a frame -/
theorem resultsOf_ok (Gd : K.Good) {w : World} {tm : Array Value} (R : Rel K ρ h w) (T : TmpR ρ nt tmps tm) {E : Value → World → Prop} : ∀ {l : List ResultVar} {vs : List AV}, resultsOf K.P K.O h tmps l = .ok vs →
    ∀ {Q : List Value → World → Prop}, Q (AV.evs ρ vs) w → wq K.P K.Ev E (l.mapM fun | .tmp t => (pure (tm.getD t undef) : Sem Value) | .cell a t => do loadVar t (← asAddr (tm.getD a undef))) Q w
  | [], vs, he, Q, hq => by
    simp only [resultsOf] at he
    cases he
    simpa only [List.mapM_nil, wq_pure, AV.evs] using hq
  | r :: l, vs, he, Q, hq => by
    simp only [resultsOf] at he
    split at he
    · rename_i v hv
      split at he
      · rename_i vs' hvs
        cases he
        simp only [List.mapM_cons, wq_bind]
        have tail : wq K.P K.Ev E (l.mapM fun | .tmp t => (pure (tm.getD t undef) : Sem Value) | .cell a t => do loadVar t (← asAddr (tm.getD a undef))) (fun xs w => wq K.P K.Ev E (pure (v.ev ρ :: xs)) Q w) w :=
          resultsOf_ok Gd R T hvs (by rw [wq_pure]; exact hq)
        cases r with
        | tmp t =>
          simp only [resultOf] at hv
          cases hv
          simp only [wq_pure]
          rw [T.getD t]
          exact tail
        | cell a t =>
          simp only [resultOf] at hv
          split at hv
          · rename_i x hx
            simp only [wq_bind]
            rw [T.getD a, hx]
            simp only [AV.ev, Option.map_some, asAddr, wq_pure]
            exact wq_loadVar R Gd hv tail
          · cases hv
      · cases he
    · cases he

theorem resultsOf_in (I : Ids K U h) (ht : tmps.In U) : ∀ {l : List ResultVar} {vs : List AV}, resultsOf K.P K.O h tmps l = .ok vs → AV.Ins U vs
  | [], vs, he => by simp only [resultsOf] at he; cases he; trivial
  | r :: l, vs, he => by
    simp only [resultsOf] at he
    split at he
    · rename_i v hv
      split at he
      · rename_i vs' hvs
        cases he
        refine ⟨?_, resultsOf_in I ht hvs⟩
        cases r with
        | tmp t => simp only [resultOf] at hv; cases hv; exact ht t
        | cell a t =>
          simp only [resultOf] at hv
          split at hv
          · exact loadVar?_in I hv
          · cases hv
      · cases he
    · cases he

theorem results?_ok (Gd : K.Good) {v : AV} (he : results? K.P K.O h fn tmps = .ok v) : ∃ f, K.P.funcs[fn]? = some f ∧ (∀ {U}, Ids K U h → tmps.In U → v.In U) ∧
    ∀ {ρ : Env} {nt : Nat} {w : World} {tm : Array Value} {E : Value → World → Prop}, Rel K ρ h w → TmpR ρ nt tmps tm → ∀ {Q : Value → World → Prop}, Q (v.ev ρ) w → wq K.P K.Ev E (results f tm) Q w := by
  unfold results? at he
  split at he
  · rename_i f hf
    have run : ∀ {ρ : Env} {nt : Nat} {w : World} {tm : Array Value} {E : Value → World → Prop} {vs : List AV}, resultsOf K.P K.O h tmps f.results.toList = .ok vs → Rel K ρ h w → TmpR ρ nt tmps tm → ∀ {Q : Value → World → Prop},
        Q (if hs : (AV.evs ρ vs).toArray.size = 1 then (AV.evs ρ vs).toArray[0] else .tuple (AV.evs ρ vs).toArray) w → wq K.P K.Ev E (results f tm) Q w := by
      intro ρ nt w tm E vs hvs R T Q hq
      unfold results
      rw [Array.mapM_eq_mapM_toList]
      simp only [wq_bind, wq_map, wq_pure]
      exact resultsOf_ok Gd R T hvs hq
    split at he
    · rename_i v' hv
      cases he
      refine ⟨f, hf, fun I ht => (resultsOf_in I ht hv).1, fun {ρ nt w tm E} R T {Q} hq => run hv R T ?_⟩
      simpa [AV.evs] using hq
    · rename_i vs hne hv
      cases he
      refine ⟨f, hf, fun I ht => resultsOf_in I ht hv, fun {ρ nt w tm E} R T {Q} hq => run hv R T ?_⟩
      have : ¬ (AV.evs ρ vs).toArray.size = 1 := by
        simp only [List.size_toArray, evs_length]
        intro h1
        obtain ⟨x, rfl⟩ := List.length_eq_one_iff.1 h1
        exact hne x rfl
      rw [dif_neg this]
      exact hq
    · cases he
  · cases he
end
end Go.Proofs.Ytcpiafgkmakdiaa.SX
