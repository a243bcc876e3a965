/-
  The crew, sound: the holder's go statement; a step of the crew.
-/
import Derived.Test.YtcpiafgkmakdiaaSxCrew3
set_option linter.unusedSectionVars false
set_option linter.unusedVariables false
set_option linter.unusedSimpArgs false
namespace Go.Proofs.Ytcpiafgkmakdiaa.SX
open Go.Conc
open Go.ConcN (sumTo upd sumTo_upd upd_ne upd_same)

section
variable {P : Program} {O : Orc} {ext : Ext} {sum : Sums} {base : Nat} {W0 : World} {cs : List Frame} {st : CSt} {gs : Array Goroutine} {w : World} {T : Trace} {q : Nat → Nat} {Inb : Nat → Option Tok.Seat} {U : Nat → Prop} {ρ : Env} {γ : Nat → Nat} {a : Goroutine} {m : Machine}

theorem quiet_run {α : Type} {s : Sem α} {v : α} {w : World} (h : wq P (fun _ => False) (fun _ _ => False) s (fun x w' => x = v ∧ w' = w) w) : s.run P w = .ok v w ∧ s.events P w #[] = #[] := by
  obtain ⟨h1, h2⟩ := wq_run h
  refine ⟨?_, ?_⟩
  · generalize s.run P w = r at h1
    cases r with
    | ok x w' => obtain ⟨rfl, rfl⟩ := h1; rfl
    | halt x w' => cases x <;> exact h1.elim
  · rcases Nat.eq_zero_or_pos (s.events P w #[]).size with h0 | h0
    · exact Array.eq_empty_of_size_eq_zero h0
    · exact (h2 _ (Array.getElem_mem h0)).elim

theorem born_step {f : FuncId} {cap args : Array Value} (hf : fnOk P f = true) (main : Bool) (w : World) :
    stepG P main (born P { target := .fn (.func f) cap, args := args }) w = .go (G (Frame.enter P f (args ++ cap) .deferred) [baseF P]) w #[] := by
  obtain ⟨h1, h2⟩ := quiet_run (P := P) (s := invoke (.fn (.func f) cap) args) (v := .enter f (args ++ cap)) (w := w) (by
    show wq P _ _ (callFunc f (args ++ cap)) _ w
    exact wq_enter (K := ⟨P, {}, fun _ => True, fun _ => False, False, fun _ _ => False⟩) hf ⟨rfl, rfl⟩)
  have e1 := stepG_deferred (P := P) (main := main) (fr := { (default : Frame) with fn := P.funcs.size, defers := [{ target := .fn (.func f) cap, args := args }], mode := .panicking [goexitEntry] }) (cs := []) (w := w) (D := { target := .fn (.func f) cap, args := args }) (Ds := []) (fun e => by cases e) rfl (.inl ⟨_, _, rfl⟩)
  have e2 := callDeferred_enter (P := P) (fr := baseF P) (cs := []) (w := w) (w' := w) (D := { target := .fn (.func f) cap, args := args }) (f := f) (args := args ++ cap) (.inl ⟨_, _, rfl⟩) h1
  rw [h2, seen_none] at e2
  exact e1.trans e2

theorem sits_born {K : World → Prop} {Still : Loc → Prop} {B : Nat} {s : Conc.Seat} {n : Nat} {f : FuncId} {cap args : Array Value} (hf : fnOk P f = true) (h : Sits P false K Still B s (n + 1) (G (Frame.enter P f (args ++ cap) .deferred) [baseF P])) :
    Sits P false K Still B s (n + 1 + 1) (born P { target := .fn (.func f) cap, args := args }) := by
  rcases h with ⟨k, w₀, hk, hG⟩ | ⟨h0, _⟩
  · obtain rfl : k = n := by omega
    refine .inl ⟨k + 1, w₀, rfl, .inr ⟨rfl, fun w₁ hw => ?_⟩⟩
    rw [born_step hf, goes_go]
    refine ⟨⟨rfl, by simp⟩, ?_⟩
    cases k with
    | zero => exact hG
    | succ k => exact hG
  · omega

theorem cinv_hire (X : CrewSound P O ext sum) {call : Call} {o : Oper} (ho : opAt st.c = some o) (hop : o.op = .go call) {st' : CSt} (hg : hire? P O call o.type st = .ok st') (I : CInv P O base W0 cs st m T) : ∃ N m' T', runNT P N m T = (.next m', T') ∧ CInv P O base W0 cs st' m' T' := by
  obtain ⟨gs, w, sl, q, Inb, U, ρ, γ, a, rfl, F⟩ := I
  obtain ⟨h, ⟨cur, callers, ⟨hp, nb, lim⟩⟩, seats, next, deaf⟩ := st
  obtain ⟨fn, nt, tmps, ops, i, rst, k, defers, kind, callers', hh, e, hoi, hgd⟩ := opAt_ok ho
  cases e
  have Γ : LGam P ρ ⟨⟨fn, nt, tmps, .inRegion ops (i :: rst) :: k, defers, .run, kind⟩, callers, ⟨hp, nb, lim⟩⟩ (csOf P cs h) a := F.gam.2
  have IL : LIds U ⟨⟨fn, nt, tmps, .inRegion ops (i :: rst) :: k, defers, .run, kind⟩, callers, ⟨hp, nb, lim⟩⟩ := ⟨F.ids.cur, F.ids.callers⟩
  have R := F.gam.1
  obtain ⟨tm, frs, h1, h2, h3, hc, ea⟩ := lg_run.1 Γ
  have hw : Region.wanted o (yielded ops tm) = true := by unfold Region.wanted; rw [hgd]
  have hke : (mkF fn kind).kind ≠ .early := by rcases h2 with rfl | rfl <;> simp [mkF]
  unfold hire? at hg
  dsimp only at hg
  split at hg
  · rename_i f cap args hres
    split at hg
    · rename_i fr gv hfn hen hfg
      split at hg
      · cases hg
      · rename_i ns s' hse
        split at hg
        · rename_i hok hch hrd hap
          cases hg
          have hid := (seat_eq hse).1
          have hch' := isChanAt_ok hch
          have hfo : fnOk P f = true := by
            have F0 := (X.facts (fun _ => True) (fun _ => True) True (fun _ _ => False)).fns
            exact List.all_eq_true.1 F0 f (by simpa using hfn)
          have hd : (⟨.fn (.func f) cap, args⟩ : AD).In U := resolve?_in hres (fun x => evalA_in IL.cur.tmps x)
          have hins : AV.Ins U (args ++ cap) := Ins_iff.2 fun v hv => (List.mem_append.1 hv).elim (Ins_iff.1 hd.2 v) (Ins_iff.1 hd.1 v)
          have hev : (⟨tm, defers.map (AD.ev ρ)⟩ : Act).eval = fun x => (evalA tmps x).ev ρ := funext fun x => evalA_ev h1 _ x
          have hq : ∀ w : World, (execOp (⟨tm, defers.map (AD.ev ρ)⟩ : Act).eval o).run P w = .ok (.spawn ((⟨.fn (.func f) cap, args⟩ : AD).ev ρ)) w ∧ (execOp (⟨tm, defers.map (AD.ev ρ)⟩ : Act).eval o).events P w #[] = #[] := fun w => by
            refine quiet_run ?_
            rw [hev]
            unfold execOp
            rw [hop]
            show wq P _ _ (resolve (fun x => (evalA tmps x).ev ρ) call o.type >>= fun d => pure (Go.Next.spawn d)) _ w
            rw [wq_bind]
            exact wq_resolve (K := ⟨P, {}, fun _ => True, fun _ => False, False, fun _ _ => False⟩) hres ⟨rfl, rfl⟩
          have hgo : ∀ d, stepG P (γ h == 0) a (w.at d) = .spawn (G ((mkF fn kind).at ((⟨tm, defers.map (AD.ev ρ)⟩ : Act).put o.dst undef) (.inRegion ops rst :: k)) (frs ++ csOf P cs h)) (born P ((⟨.fn (.func f) cap, args⟩ : AD).ev ρ)) (w.at d) #[] := fun d => by
            rw [ea, stepG_spawn hoi hw hke (hq (w.at d)).1 rfl, listed_none (hq (w.at d)).2]
          have hrun : a.status = .running := by rw [ea]; rfl
          have hgeS : ∀ x ∈ seats, base ≤ ρ.b x.ch := fun x hx => by
            obtain ⟨_, _, t2, _, S2⟩ := F.seats x hx
            exact S2.ge
          have hn0 : next ≠ 0 := fun e => by have := F.hlt; dsimp only at this; omega
          have ecs : csOf P cs next = [baseF P] := by unfold csOf; rw [if_neg hn0]
          obtain ⟨en1, en2, en3, en4, en5⟩ := enterA_ok hen (.inr rfl) hins (ρ := ρ)
          have ILc : LIds U ⟨fr, [], e0⟩ := ⟨en2, fun _ x => by (simp at x)⟩
          have Γc : LGam P ρ ⟨fr, [], e0⟩ [baseF P] (G (Frame.enter P f (AV.evs ρ (args ++ cap)).toArray .deferred) [baseF P]) := ⟨_, [], en1, trivial, rfl⟩
          have hS := seat_sits X R F.ids.ids hse hrd ILc Γc false
          have eargs : (AV.evs ρ (args ++ cap)).toArray = (AV.evs ρ args).toArray ++ (AV.evs ρ cap).toArray := by simp [evs_append]
          rw [eargs] at hS
          have hS' := sits_born hfo hS
          obtain ⟨N, gs', d, sl', T', q', hr, hsz, ha, C'⟩ := Tok.hire (P := P) (sl := sl) F.here hrun hgo (by simp) F.core (seatOf P O U ρ [baseF P] w.heap.size s') (seat_fresh R F.all' hok hch' hrd hap) hS'
          obtain ⟨ILg, Γg⟩ := served_ok Γ IL (v := undefA) (by simp [undefA, AV.In, AV.Ins]) hfg e0
          have eserved : Conc.served a (undefA.ev ρ) = G ((mkF fn kind).at ((⟨tm, defers.map (AD.ev ρ)⟩ : Act).put o.dst undef) (.inRegion ops rst :: k)) (frs ++ csOf P cs h) := by
            rw [ea]
            show { G ((mkF fn kind).at ⟨tm, defers.map (AD.ev ρ)⟩ (.inRegion ops (i :: rst) :: k)) (frs ++ csOf P cs h) with frame := ((mkF fn kind).at ⟨tm, defers.map (AD.ev ρ)⟩ (.inRegion ops (i :: rst) :: k)).finish undef, status := .running, offers := none } = _
            rw [Frame.finish_at, hoi]
            rfl
          rw [eserved] at Γg
          obtain ⟨frg, frsg, g1, g2, g3⟩ := Γg
          have hγ : ∀ x, x < next → upd γ next gs.size x = γ x := fun x hx => upd_ne γ _ (by omega)
          have hI : ∀ x, x < next → upd Inb gs.size (some (seatOf P O U ρ [baseF P] w.heap.size s')) (γ x) = Inb (γ x) := fun x hx => upd_ne Inb _ (by have := F.lt x hx; omega)
          have hlt0 : 0 < next := Nat.pos_of_ne_zero hn0
          have hok' : seatsOk hp (s' :: seats) = true := seatsOk_mk fun x hx => by
            rcases List.mem_cons.1 hx with rfl | hx
            · exact ⟨hch', reads_stills hrd⟩
            · exact seatsOk_ok hok x hx
          have hhl : h < next := F.hlt
          refine ⟨N, _, T', hr, gs', w.at d, sl', q', upd Inb gs.size (some (seatOf P O U ρ [baseF P] w.heap.size s')), U, ρ, upd γ next gs.size, _, rfl, ⟨?_, by rw [hγ 0 hlt0]; exact F.zero, fun i j hi hj e => ?_, fun i hi => ?_, Nat.lt_succ_of_lt hhl, by rw [hγ h hhl]; exact ha, ⟨ILg.cur, ILg.callers, ids_move F.ids.ids⟩, ⟨?_, frg, frsg, g1, g2, g3⟩, fun x hx => ?_, fun i t2 e => ?_, ?_, F.keeps.trans ⟨fun n hn => rfl, Nat.le_refl _, rfl, rfl, rfl⟩, F.mem⟩⟩
          · rw [hγ h hhl]; exact C'
          · dsimp only at hi hj
            by_cases ei : i = next <;> by_cases ej : j = next
            · rw [ei, ej]
            · rw [ei, upd_same, hγ j (by omega)] at e
              have := F.lt j (by show j < next; omega)
              omega
            · rw [ej, upd_same, hγ i (by omega)] at e
              have := F.lt i (by show i < next; omega)
              omega
            · rw [hγ i (by omega), hγ j (by omega)] at e
              exact F.inj i j (by show i < next; omega) (by show j < next; omega) e
          · dsimp only at hi
            rw [hsz]
            by_cases ei : i = next
            · rw [ei, upd_same]; omega
            · rw [hγ i (by omega)]
              have := F.lt i (by show i < next; omega)
              omega
          · exact rel_move R rfl (fun n => .inl rfl) F.mem hgeS hok hok'
          · rcases List.mem_cons.1 hx with rfl | hx
            · refine ⟨by rw [hid]; exact Nat.lt_succ_self _, by rw [hid]; exact fun e => by have := F.hlt; dsimp only at this e; omega, _, by rw [hid, upd_same, upd_same], ?_⟩
              rw [hid, ecs]
              exact seat_is R F.ids.ids _ hrd hch' (rel_ge R hgeS hok hch')
            · obtain ⟨x1, x2, t2, e, S2⟩ := F.seats x hx
              exact ⟨Nat.lt_succ_of_lt x1, x2, t2, by rw [hγ _ x1, hI _ x1]; exact e, S2⟩
          · by_cases ei : i = gs.size
            · exact ⟨s', List.mem_cons_self .., by rw [hid, upd_same, ei]⟩
            · rw [upd_ne Inb _ ei] at e
              obtain ⟨x, hx, rfl⟩ := F.all i t2 e
              have := F.seats x hx
              exact ⟨x, List.mem_cons_of_mem _ hx, by rw [hγ _ this.1]⟩
          · refine List.nodup_cons.2 ⟨fun hm => ?_, F.nodup⟩
            obtain ⟨x, hx, e⟩ := List.mem_map.1 hm
            have := (F.seats x hx).1
            rw [hid] at e
            dsimp only at this
            omega
        · cases hg
    · cases hg
  · cases hg
  · cases hg

theorem mark_call {P : Program} {f : FuncId} {m : Mark} (hm : ∀ f, m ≠ .extern f) (h : ExtFact P f (fun _ => do mark m; pure Extern.Race.none_)) (args : Array Value) (w : World) (es : Array Event) :
    (callFunc f args).runT P w es = (.ok (Go.Next.value Extern.Race.none_) w, (es.push ⟨.mark (.extern f), false, true⟩).push ⟨.mark m, false, true⟩) := by
  obtain ⟨fn, h1, h2, h3, h4, h5⟩ := h.fact
  unfold callFunc
  show (match P.funcs[f]? with
    | none => (stuck "call: no such function" : Sem Go.Next)
    | some fn => if fn.name == "runtime.NumGoroutine" then pure .numGoroutine
    else if fn.body.isNone then _ else _).runT P w es = _
  simp only [h1, h2, h3, h4, h5]
  rfl

def markWay (dis : Bool) : Mark := match dis with
  | true => .disable
  | false => .enable

theorem seen_mark (P : Program) (fn f : FuncId) {m : Mark} (hm : ∀ f, m ≠ .extern f) : seen P fn #[⟨.mark (.extern f), false, true⟩, ⟨.mark m, false, true⟩] = #[⟨.mark m, false, true⟩] := by
  cases m <;> first | exact absurd rfl (hm _) | simp [seen]

theorem cinv_mark (X : CrewSound P O ext sum) {c : Call} {o : Oper} (ho : opAt st.c = some o) (hop : o.op = .call c) {dis : Bool} (hm : markOf? O st.c.cur.tmps c = some dis) {fr : AFrame} (hf : finishA st.c.cur undefA = .ok fr) (I : CInv P O base W0 cs st m T) :
    ∃ N m' T', runNT P N m T = (.next m', T') ∧ CInv P O base W0 cs { st with c := ⟨fr, st.c.callers, st.c.h⟩, deaf := deafer dis st.deaf } m' T' := by
  obtain ⟨gs, w, sl, q, Inb, U, ρ, γ, a, rfl, F⟩ := I
  obtain ⟨h, ⟨cur, callers, ⟨hp, nb, lim⟩⟩, seats, next, deaf⟩ := st
  obtain ⟨fn, nt, tmps, ops, i, rst, k, defers, kind, callers', hh, e, hoi, hgd⟩ := opAt_ok ho
  cases e
  have Γ : LGam P ρ ⟨⟨fn, nt, tmps, .inRegion ops (i :: rst) :: k, defers, .run, kind⟩, callers, ⟨hp, nb, lim⟩⟩ (csOf P cs h) a := F.gam.2
  have IL : LIds U ⟨⟨fn, nt, tmps, .inRegion ops (i :: rst) :: k, defers, .run, kind⟩, callers, ⟨hp, nb, lim⟩⟩ := ⟨F.ids.cur, F.ids.callers⟩
  have R := F.gam.1
  obtain ⟨tm, frs, h1, h2, h3, hc, ea⟩ := lg_run.1 Γ
  have hw : Region.wanted o (yielded ops tm) = true := by unfold Region.wanted; rw [hgd]
  have hke : (mkF fn kind).kind ≠ .early := by rcases h2 with rfl | rfl <;> simp [mkF]
  unfold markOf? at hm
  dsimp only at hm
  split at hm
  · rename_i x hcal
    split at hm
    · rename_i hargs
      split at hm
      · rename_i f hx
        obtain ⟨f', hmem, hff⟩ := look_some hm
        obtain rfl := Nat.eq_of_beq_eq_true hff
        have hfact := X.offs _ hmem
        dsimp only at hfact
        have hne : ∀ g, markWay dis ≠ .extern g := fun g => by cases dis <;> simp [markWay]
        have hfact' : ExtFact P f (fun _ => do mark (markWay dis); pure Extern.Race.none_) := by cases dis <;> exact hfact
        have hae : c.args = #[] := by apply Array.toList_inj.1; exact hargs
        have e1 : (⟨tm, defers.map (AD.ev ρ)⟩ : Act).eval x = .func (.func f) #[] #[] := by rw [evalA_ev h1, hx]; rfl
        have hres : resolve (⟨tm, defers.map (AD.ev ρ)⟩ : Act).eval c o.type = pure { target := .fn (.func f) #[], args := #[] } := by
          unfold resolve
          rw [hcal, hae]
          dsimp only
          rw [e1]
          simp [Deferred.ofValue]
        have hR : ∀ (w : World) (es : Array Event), (execOp (⟨tm, defers.map (AD.ev ρ)⟩ : Act).eval o).runT P w es = (.ok (Go.Next.value Extern.Race.none_) w, (es.push ⟨.mark (.extern f), false, true⟩).push ⟨.mark (markWay dis), false, true⟩) := by
          intro w es
          unfold execOp
          rw [hop]
          show (resolve (⟨tm, defers.map (AD.ev ρ)⟩ : Act).eval c o.type >>= fun d => invoke d.target d.args).runT P w es = _
          rw [hres]
          exact mark_call hne hfact' _ w es
        have hgo : ∀ d, stepG P (γ h == 0) a (w.at d) = .go (G ((mkF fn kind).at ((⟨tm, defers.map (AD.ev ρ)⟩ : Act).put o.dst Extern.Race.none_) (.inRegion ops rst :: k)) (frs ++ csOf P cs h)) (w.at d) #[⟨.mark (markWay dis), false, true⟩] := fun d => by
          have r1 : (execOp (⟨tm, defers.map (AD.ev ρ)⟩ : Act).eval o).run P (w.at d) = .ok (Go.Next.value Extern.Race.none_) (w.at d) := by
            have := congrArg Prod.fst (hR (w.at d) #[])
            rw [Sem.runT_fst] at this
            exact this
          have r2 : (execOp (⟨tm, defers.map (AD.ev ρ)⟩ : Act).eval o).events P (w.at d) #[] = #[⟨.mark (.extern f), false, true⟩, ⟨.mark (markWay dis), false, true⟩] := congrArg Prod.snd (hR (w.at d) #[])
          rw [ea, stepG_value hoi hw hke r1]
          unfold listed
          rw [r2, seen_mark P _ f hne]
        have hrun : a.status = .running := by rw [ea]; rfl
        obtain ⟨N, gs', d, sl', T', q', hr, hsz, ha, C'⟩ := Tok.hold_turn (dd' := deafer dis deaf) (sl := sl) F.here hrun hgo (by
            intro e he
            simp only [List.mem_toArray, List.mem_cons, List.not_mem_nil, or_false] at he
            subst he
            cases dis <;> rfl) (by cases dis <;> rfl) F.core
        obtain ⟨ILg, Γg⟩ := served_ok Γ IL (v := undefA) (by simp [undefA, AV.In, AV.Ins]) hf e0
        have eserved : Conc.served a (undefA.ev ρ) = G ((mkF fn kind).at ((⟨tm, defers.map (AD.ev ρ)⟩ : Act).put o.dst Extern.Race.none_) (.inRegion ops rst :: k)) (frs ++ csOf P cs h) := by
          rw [ea]
          show { G ((mkF fn kind).at ⟨tm, defers.map (AD.ev ρ)⟩ (.inRegion ops (i :: rst) :: k)) (frs ++ csOf P cs h) with frame := ((mkF fn kind).at ⟨tm, defers.map (AD.ev ρ)⟩ (.inRegion ops (i :: rst) :: k)).finish undef, status := .running, offers := none } = _
          rw [Frame.finish_at, hoi]
          rfl
        rw [eserved] at Γg
        obtain ⟨frg, frsg, g1, g2, g3⟩ := Γg
        refine ⟨N, _, T', hr, gs', w.at d, sl', q', Inb, U, ρ, γ, _, rfl, ⟨C', F.zero, F.inj, fun i hi => by rw [hsz]; exact F.lt i hi, F.hlt, ha, ⟨ILg.cur, ILg.callers, F.ids.ids⟩, ⟨rel_same R ⟨d, rfl⟩, frg, frsg, g1, g2, g3⟩, F.seats, F.all, F.nodup, F.keeps.trans ⟨fun n hn => rfl, Nat.le_refl _, rfl, rfl, rfl⟩, F.mem⟩⟩
      · cases hm
    · cases hm
  · cases hm

/-- A step of the crew. -/
theorem crew1_ok (X : CrewSound P O ext sum) {f : Nat} {st' : CSt} (he : crew1? P O ext sum f st = .ok (.inl st')) (I : CInv P O base W0 cs st m T) : ∃ N m' T', runNT P N m T = (.next m', T') ∧ CInv P O base W0 cs st' m' T' := by
  have walk : (match step? P O ext (fun g args h => match sum g args h with
      | some r => r
      | none => match enterA P g args .normal with
        | .ok fr => run? P O ext sum f ⟨fr, [], h⟩
        | .error e => .error e) st.c with
    | .ok (.inl c) => (.ok (.inl { st with c }) : M (CSt ⊕ AV))
    | .ok (.inr (.returned v, _)) => match Nat.beq st.h 0, st.seats, st.c.callers, oneTmp P st.c.cur.fn, st.deaf with
      | true, [], [], true, 0 => .ok (.inr v)
      | _, _, _, _, _ => .error "the end somebody waits"
    | .ok (.inr _) => .error "the end a panic"
    | .error e => .error e) = .ok (.inl st') → ∃ N m' T', runNT P N m T = (.next m', T') ∧ CInv P O base W0 cs st' m' T' := by
    intro hw
    split at hw
    · rename_i c' hs
      cases hw
      exact cinv_walk X hs I
    · split at hw <;> cases hw
    · cases hw
    · cases hw
  unfold crew1? at he
  dsimp only at he
  split at he
  · rename_i o ho
    split at he
    · rename_i x y hop
      split at he
      · rename_i s hg
        cases he
        exact cinv_give X ho hop hg I
      · cases he
    · rename_i c hop
      split at he
      · rename_i s hg
        cases he
        exact cinv_hire X ho hop hg I
      · cases he
    · rename_i c hop
      split at he
      · rename_i dis hm
        split at he
        · rename_i fr hf
          cases he
          exact cinv_mark X ho hop hm hf I
        · cases he
      · exact walk he
    · exact walk he
  · exact walk he
end
end Go.Proofs.Ytcpiafgkmakdiaa.SX
