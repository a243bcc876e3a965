/-
  A call run aside that deafens its goroutine in between, and lets it hear again: as closed data.
-/
import Derived.Test.YtmnahfonnljobaaGreatDoorSxCrews
import Derived.Test.YtmnahfonnljobaaGreatDoorSxRensB
set_option linter.unusedVariables false
namespace Go.Proofs.YtmnahfonnljobaaGreatDoor.SX
noncomputable section

/-- The step that deafens, or lets one hear again. -/
def markAt? (O : Orc) (c : ACfg) : Option (Bool × ACfg) :=
  match opAt c with
  | none => none
  | some o => match o.op with
    | .call cl => match markOf? O c.cur.tmps cl with
      | none => none
      | some dis => match finishA c.cur undefA with
        | .ok fr => some (dis, ⟨fr, c.callers, c.h⟩)
        | .error _ => none
    | _ => none

def predD (d : Nat) : Option Nat := match d with
  | 0 => none
  | d + 1 => some d

/-- Runs till the lowest frame ends; d: how often it is deaf. -/
def drun? (P : Program) (O : Orc) (ext : Ext) (sum : Sums) (f : Nat) (n : Nat) : Nat → ACfg → M (AE × AH) :=
  Nat.rec (fun _ _ => .error "fuel") (fun _ ih d c => match markAt? O c with
    | some (true, c') => ih (d + 1) c'
    | some (false, c') => match predD d with
      | none => .error "marks one hears"
      | some d => ih d c'
    | none => match step? P O ext (fun g args h => match sum g args h with
        | some r => r
        | none => match enterA P g args .normal with
          | .ok fr => run? P O ext sum f ⟨fr, [], h⟩
          | .error e => .error e) c with
      | .ok (.inl c') => ih d c'
      | .ok (.inr r) => match predD d with
        | none => .ok r
        | some _ => .error "marks deaf at the end"
      | .error e => .error e) n

/-- As summaries: of these functions. -/
def markSum (P : Program) (O : Orc) (ext : Ext) (sum : Sums) (f n : Nat) (fs : List FuncId) : Sums := fun g args h =>
  match fs.contains g with
  | true => some (match enterA P g args .normal with
    | .ok fr => drun? P O ext sum f n 0 ⟨fr, [], h⟩
    | .error e => .error e)
  | false => none
end
end Go.Proofs.YtmnahfonnljobaaGreatDoor.SX
/-
  A call run aside that deafens its goroutine in between: sound.
-/
set_option linter.unusedSectionVars false
set_option linter.unusedVariables false
set_option linter.unusedSimpArgs false
namespace Go.Proofs.YtmnahfonnljobaaGreatDoor.SX
open Go.Conc

theorem WalkI.join {P : Program} {main : Bool} {D : World → World → Array Event → Prop} {S T : Goroutine → World → Prop} {k : Nat} (hST : ∀ g w, S g w → WalkI P main D T k g w) {n : Nat} {g : Goroutine} {w : World} (h : WalkI P main D S n g w) : WalkI P main D T (k + n) g w := by
  induction h with
  | stop g w hs => exact hST g w hs
  | step n g w g' w' es hr hs hd _ ih => exact WalkI.step (k + n) g w g' w' es hr hs hd fun d => ih d
  | off n g w g' hr hs _ ih => exact WalkI.off (k + n) g w g' hr hs fun d => ih d
  | on n g w g' hr hs _ ih => exact WalkI.on (k + n) g w g' hr hs fun d => ih d

theorem WalkI.weaken {P : Program} {main : Bool} {D : World → World → Array Event → Prop} {S T : Goroutine → World → Prop} (hST : ∀ g w, S g w → T g w) {n : Nat} {g : Goroutine} {w : World} (h : WalkI P main D S n g w) : WalkI P main D T n g w := by
  have := WalkI.trans (T := T) (fun g w hs => WalkI.stop g w (hST g w hs)) h
  exact this

theorem predD_some {d e : Nat} (h : predD d = some e) : d = e + 1 := by
  cases d with
  | zero => cases h
  | succ d => cases h; rfl
theorem predD_none {d : Nat} (h : predD d = none) : d = 0 := by
  cases d with
  | zero => rfl
  | succ d => cases h

section
variable {K : Ctx} {main : Bool} {ext : Ext} {sum : Sums}

/-- Functions that deafen, and such as let one hear again. -/
def OffsOk (P : Program) (O : Orc) : Prop := ∀ p ∈ O.offs, ExtFact P p.1 (fun _ => do mark (match p.2 with | true => .disable | false => .enable); pure Extern.Race.none_)

theorem mark_step (hoffs : OffsOk K.P K.O) {c c' : ACfg} {dis : Bool} (he : markAt? K.O c = some (dis, c')) {U : Nat → Prop} {ρ : Env} {cs : List Frame} {g : Goroutine} {w : World} (I : CIds K U c) (Γ : Gam K ρ c cs g w) :
    ∃ g', (∀ d, stepG K.P main g (drawnAt w d) = .go g' (drawnAt w d) #[⟨.mark (markWay dis), false, true⟩]) ∧ (∀ d, CIds K U c' ∧ Gam K ρ c' cs g' (drawnAt w d)) ∧ c'.h = c.h ∧ bot c'.cur.fn c'.callers = bot c.cur.fn c.callers := by
  unfold markAt? at he
  split at he
  · cases he
  rename_i o ho
  split at he
  rotate_left
  · cases he
  rename_i cl hop
  split at he
  · cases he
  rename_i dis' hm
  split at he
  rotate_left
  · cases he
  rename_i fr hf
  cases he
  obtain ⟨fn, nt, tmps, ops, i, rst, k, defers, kind, callers', hh, e, hoi, hgd, htg⟩ := opAt_ok ho
  cases e
  have Γ0 : LGam K.P ρ ⟨⟨fn, nt, tmps, .inRegion ops (i :: rst) :: k, defers, .run, kind⟩, callers', hh⟩ cs g := Γ.2
  have IL : LIds U ⟨⟨fn, nt, tmps, .inRegion ops (i :: rst) :: k, defers, .run, kind⟩, callers', hh⟩ := ⟨I.cur, I.callers⟩
  have R := Γ.1
  obtain ⟨tm, frs, h1, h2, h3, hc, ea⟩ := (lg_run htg).1 Γ0
  have hw : Region.wanted o (yielded ops tm) = true := by unfold Region.wanted; rw [hgd]
  have hke : (mkF fn kind).kind ≠ .early := by rcases h2 with rfl | rfl <;> simp [mkF]
  unfold markOf? at hm
  dsimp only at hm
  split at hm
  rotate_left
  · cases hm
  rename_i x hcal
  split at hm
  rotate_left
  · cases hm
  rename_i hargs
  split at hm
  rotate_left
  · cases hm
  rename_i f hx
  obtain ⟨f', hmem, hff⟩ := look_some hm
  obtain rfl := Nat.eq_of_beq_eq_true hff
  have hfact := hoffs _ hmem
  dsimp only at hfact
  have hne : ∀ g, markWay dis ≠ .extern g := fun g => by cases dis <;> simp [markWay]
  have hfact' : ExtFact K.P f (fun _ => do mark (markWay dis); pure Extern.Race.none_) := by cases dis <;> exact hfact
  have hae : cl.args = #[] := by apply Array.toList_inj.1; exact hargs
  have e1 : (⟨tm, defers.map (AD.ev ρ)⟩ : Act).eval x = .func (.func f) #[] #[] := by rw [evalA_ev h1, hx]; rfl
  have hres : resolve (⟨tm, defers.map (AD.ev ρ)⟩ : Act).eval cl o.type = pure { target := .fn (.func f) #[], args := #[] } := by
    unfold resolve
    rw [hcal, hae]
    dsimp only
    rw [e1]
    simp [Deferred.ofValue]
  have hR : ∀ (w : World) (es : Array Event), (execOp (⟨tm, defers.map (AD.ev ρ)⟩ : Act).eval o).runT K.P w es = (.ok (Go.Next.value Extern.Race.none_) w, (es.push ⟨.mark (.extern f), false, true⟩).push ⟨.mark (markWay dis), false, true⟩) := by
    intro w es
    unfold execOp
    rw [hop]
    show (resolve (⟨tm, defers.map (AD.ev ρ)⟩ : Act).eval cl o.type >>= fun d => invoke d.target d.args).runT K.P w es = _
    rw [hres]
    exact mark_call hne hfact' _ w es
  have hgo : ∀ d, stepG K.P main g (drawnAt w d) = .go (G ((mkF fn kind).at ((⟨tm, defers.map (AD.ev ρ)⟩ : Act).put o.dst Extern.Race.none_) (.inRegion ops rst :: k)) (frs ++ cs)) (drawnAt w d) #[⟨.mark (markWay dis), false, true⟩] := fun d => by
    have r1 : (execOp (⟨tm, defers.map (AD.ev ρ)⟩ : Act).eval o).run K.P (drawnAt w d) = .ok (Go.Next.value Extern.Race.none_) (drawnAt w d) := by
      have := congrArg Prod.fst (hR (drawnAt w d) #[])
      rw [Sem.runT_fst] at this
      exact this
    have r2 : (execOp (⟨tm, defers.map (AD.ev ρ)⟩ : Act).eval o).events K.P (drawnAt w d) #[] = #[⟨.mark (.extern f), false, true⟩, ⟨.mark (markWay dis), false, true⟩] := congrArg Prod.snd (hR (drawnAt w d) #[])
    rw [ea, stepG_value hoi hw hke r1]
    unfold listed
    rw [r2, seen_mark K.P _ f hne]
  obtain ⟨ILg, Γg⟩ := served_ok Γ0 IL (v := undefA) (by simp [undefA, AV.In, AV.Ins]) hf hh
  have eserved : Conc.served g (undefA.ev ρ) = G ((mkF fn kind).at ((⟨tm, defers.map (AD.ev ρ)⟩ : Act).put o.dst Extern.Race.none_) (.inRegion ops rst :: k)) (frs ++ cs) := by
    rw [ea]
    show { G ((mkF fn kind).at ⟨tm, defers.map (AD.ev ρ)⟩ (.inRegion ops (i :: rst) :: k)) (frs ++ cs) with frame := ((mkF fn kind).at ⟨tm, defers.map (AD.ev ρ)⟩ (.inRegion ops (i :: rst) :: k)).finish undef, status := .running, offers := none } = _
    rw [Frame.finish_at, hoi]
    rfl
  rw [eserved] at Γg
  refine ⟨_, hgo, fun d => ⟨⟨ILg.cur, ILg.callers, I.ids⟩, R.drawn d, Γg⟩, rfl, ?_⟩
  show bot fr.fn callers' = bot fn callers'
  have := finishA_fn hf
  cases callers' <;> simp [bot, this]

theorem drun_ok (Gd : K.Good) (F : K.Facts) (X : ExtOk K ext) (Z : SumOk K main sum) (hoffs : OffsOk K.P K.O) {f : Nat} : ∀ {n d : Nat} {c : ACfg} {r : AE × AH}, drun? K.P K.O ext sum f n d c = .ok r →
    ∀ U ρ cs g w, CIds K U c → Gam K ρ c cs g w → WalkI K.P main (DK K) (Done K (bot c.cur.fn c.callers) U ρ cs w c.h r) d g w := by
  intro n
  induction n with
  | zero => intro d c r he; cases he
  | succ n ih =>
    intro d c r he U ρ cs g w I Γ
    have he' : (match markAt? K.O c with
      | some (true, c') => drun? K.P K.O ext sum f n (d + 1) c'
      | some (false, c') => match predD d with
        | none => .error "marks one hears"
        | some d => drun? K.P K.O ext sum f n d c'
      | none => match step? K.P K.O ext (fun g args h => match sum g args h with
          | some r => r
          | none => match enterA K.P g args .normal with
            | .ok fr => run? K.P K.O ext sum f ⟨fr, [], h⟩
            | .error e => .error e) c with
        | .ok (.inl c') => drun? K.P K.O ext sum f n d c'
        | .ok (.inr r) => match predD d with
          | none => .ok r
          | some _ => .error "marks deaf at the end"
        | .error e => .error e) = .ok r := he
    have C := callOk_of (K := K) (main := main) Z (k := run? K.P K.O ext sum f) (run_ok Gd F X Z)
    have onward : ∀ {c' : ACfg} {d' : Nat} {w' : World} {g' : Goroutine}, (∃ e, w' = drawnAt w e) → c'.h = c.h → bot c'.cur.fn c'.callers = bot c.cur.fn c.callers → WalkI K.P main (DK K) (Done K (bot c'.cur.fn c'.callers) U ρ cs w' c'.h r) d' g' w' →
        WalkI K.P main (DK K) (Done K (bot c.cur.fn c.callers) U ρ cs w c.h r) d' g' w' := by
      intro c' d' w' g' hw hh hb W
      refine W.weaken fun g2 w2 dn => ?_
      rw [hb, hh] at dn
      obtain ⟨ρ'', a1, a2, a3, a4, a5, a6⟩ := dn
      exact ⟨ρ'', a1, (keeps_same _ hw).trans a2, a3, a4, a5, a6⟩
    split at he'
    · rename_i c' hm
      obtain ⟨g', hs, hG, hh, hb⟩ := mark_step (main := main) hoffs hm I Γ
      refine WalkI.off d g w g' Γ.running hs fun e => ?_
      exact onward ⟨e, rfl⟩ hh hb (ih he' U ρ cs g' _ (hG e).1 (hG e).2)
    · rename_i c' hm
      split at he'
      · cases he'
      · rename_i d' hd'
        obtain rfl := predD_some hd'
        obtain ⟨g', hs, hG, hh, hb⟩ := mark_step (main := main) hoffs hm I Γ
        refine WalkI.on d' g w g' Γ.running hs fun e => ?_
        exact onward ⟨e, rfl⟩ hh hb (ih he' U ρ cs g' _ (hG e).1 (hG e).2)
    · split at he'
      · rename_i c' hs
        obtain ⟨N, L⟩ := step_ok Gd F X C hs
        have W := L U ρ cs g w I Γ
        have hb := step_bot hs
        have W2 := WalkI.join (k := d) (T := Done K (bot c.cur.fn c.callers) U ρ cs w c.h r) (fun g' w' ⟨ρ', a1, a2, a3, a4, a5⟩ => by
          refine (ih he' _ ρ' cs g' w' a4 a5).weaken fun _ _ dn => ?_
          rw [hb] at dn
          exact Done.trans a1 a2 a3 dn) W
        exact W2
      · rename_i r' hs
        split at he'
        · rename_i hd
          obtain rfl := predD_none hd
          cases he'
          obtain ⟨N, E⟩ := step_ok Gd F X C hs
          exact E U ρ cs g w I Γ
        · cases he'
      · cases he'

theorem markSum_ok (Gd : K.Good) (F : K.Facts) (X : ExtOk K ext) (Z : SumOk K main sum) (hoffs : OffsOk K.P K.O) {f n : Nat} {fs : List FuncId} : SumOk K main (markSum K.P K.O ext sum f n fs) := by
  intro g args h r he
  unfold markSum at he
  split at he
  rotate_left
  · cases he
  have he2 := Option.some.inj he
  split at he2
  · rename_i fr hen
    exact ⟨fr, 0, hen, fun U ρ cs g w I Γ => drun_ok Gd F X Z hoffs he2 U ρ cs g w I Γ⟩
  · cases he2
end

end Go.Proofs.YtmnahfonnljobaaGreatDoor.SX
/-
  A crew's pieces in which nobody is handed over: less may be known in them than in the whole run. As closed data.
-/
set_option linter.unusedVariables false
namespace Go.Proofs.YtmnahfonnljobaaGreatDoor.SX
noncomputable section

/-- A step of the holder's own. -/
def mcrew1? (P : Program) (O : Orc) (ext : Ext) (sum : Sums) (f : Nat) (st : CSt) : M CSt :=
  match markAt? O st.c with
  | some (dis, c') => .ok { st with c := c', deaf := deafer dis st.deaf }
  | none => match step? P O ext (fun g args h => match sum g args h with
      | some r => r
      | none => match enterA P g args .normal with
        | .ok fr => run? P O ext sum f ⟨fr, [], h⟩
        | .error e => .error e) st.c with
    | .ok (.inl c') => .ok { st with c := c' }
    | .ok (.inr _) => .error "own it ends"
    | .error e => .error e

def mcrew? (P : Program) (O : Orc) (ext : Ext) (sum : Sums) (f n : Nat) : CSt → M CSt :=
  Nat.rec (fun c => .ok c) (fun _ ih c => match mcrew1? P O ext sum f c with
    | .ok c => ih c
    | .error e => .error e) n

/-- So many steps of the holder's own, then only these blocks. -/
def mchunk? (P : Program) (O : Orc) (ext : Ext) (sum : Sums) (f n : Nat) (ks : List Nat) (st : CSt) : M CSt :=
  match mcrew? P O ext sum f n st with
  | .ok ⟨h, ⟨cur, callers, ⟨hp, nb, lim⟩⟩, seats, next, deaf⟩ => .ok ⟨h, ⟨cur, callers, ⟨sieve hp ks, nb, lim⟩⟩, seats, next, deaf⟩
  | .error e => .error e
end
end Go.Proofs.YtmnahfonnljobaaGreatDoor.SX
/-
  A piece in which less is known: sound for who knows more.
-/
set_option linter.unusedSectionVars false
set_option linter.unusedVariables false
set_option linter.unusedSimpArgs false
namespace Go.Proofs.YtmnahfonnljobaaGreatDoor.SX
open Go.Conc

section
variable {K : Ctx} {main : Bool}

/-- This one knows no more than that one. -/
structure OrcLe (O' O : Orc) : Prop where
  bs : ∀ p ∈ O'.bs, p ∈ O.bs
  is : ∀ p ∈ O'.is, p ∈ O.is
  mem : O'.mem = O.mem
  offs : O'.offs = O.offs

theorem Ids.with {U : Nat → Prop} {h : AH} {O : Orc} (I : Ids K U h) (hO : O.In U) : Ids (K.with O) U h := ⟨I.hp, I.keys, I.nodup, I.fresh, hO⟩
theorem OrcLe.in {O' O : Orc} (l : OrcLe O' O) {U : Nat → Prop} (h : O.In U) : O'.In U := ⟨fun p hp => h.bs p (l.bs p hp), fun p hp => h.is p (l.is p hp), fun p hp => h.mem p (by rw [← l.mem]; exact hp)⟩

theorem Leads.more {O' : Orc} (l : OrcLe O' K.O) {c c' : ACfg} {N : Nat} (L : Leads (K.with O') main c c' N) : Leads K main c c' N := fun U ρ cs g w I Γ => by
  have R := Γ.1
  have F : FactsAt K O' ρ w := ⟨fun p hp => R.bs p (l.bs p hp), fun p hp => R.is p (l.is p hp), fun p hp => R.mem p (by rw [← l.mem]; exact hp)⟩
  have W := L U ρ cs g w ⟨I.cur, I.callers, I.ids.with (l.in I.ids.orc)⟩ (Γ.change F)
  refine Walk.weaken (fun g' w' hn => ?_) W
  obtain ⟨ρ', a1, a2, a3, a4, a5⟩ := hn
  have hO := I.ids.orc
  have F' : FactsAt (K.with O') K.O ρ' w' := ⟨fun p hp => by rw [BE.ev_agree a1 (hO.bs p hp)]; exact R.bs p hp, fun p hp => by rw [IE.ev_agree a1 (hO.is p hp).1, IE.ev_agree a1 (hO.is p hp).2]; exact R.is p hp, fun p hp => by
    rw [AA.ev_agree a1 (hO.mem p hp).1, AV.ev_agree a1 _ (hO.mem p hp).2]
    obtain ⟨m1, m2, m3⟩ := R.mem p hp
    refine ⟨m1, ?_, m3⟩
    simp only [World.cell?] at m2 ⊢
    have : w'.heap[(p.1.ev ρ).block]? = w.heap[(p.1.ev ρ).block]? := a2.heap _ m1
    rw [this]; exact m2⟩
  exact ⟨ρ', a1, a2, ⟨a3.nb, a3.lim, (a3.ids.with (O := K.O) (hO.mono plus_sub) :)⟩, ⟨a4.cur, a4.callers, (a4.ids.with (O := K.O) (hO.mono plus_sub) :)⟩, (a5.change F' :)⟩
end

section
variable {P : Program} {O O' : Orc} {ext : Ext} {sum : Sums} {base : Nat} {W0 : World} {cs : List Frame} {st : CSt} {m : Machine} {T : Trace}

theorem CK_with (l : OrcLe O' O) (seats : List ASeat) (ρ : Env) : CK P O' base seats ρ = (CK P O base seats ρ).with O' := by
  unfold CK Ctx.with keptA
  rw [l.mem]

theorem cinv_leads {c' : ACfg} (hs : ∀ ρ main, (∀ p ∈ O.mem, (p.1.ev ρ).block < base) → ∃ N, Leads (CK P O base st.seats ρ) main st.c c' N) (I : CInv P O base W0 cs st m T) : ∃ N m' T', runNT P N m T = (.next m', T') ∧ CInv P O base W0 cs { st with c := c' } m' T' := by
  obtain ⟨gs, w, sl, q, Inb, U, ρ, γ, a, rfl, F⟩ := I
  obtain ⟨N, L⟩ := hs ρ (γ st.h == 0) F.mem
  obtain ⟨M, gs', a', w', sl', T', q', hr, hsz, ha, ⟨ρ', A, kp, gr, hin, Γ⟩, C'⟩ := F.go (L U ρ (csOf P cs st.h) a w F.ids F.gam) sl
  have hO : O.In U := F.orc
  have hseat : ∀ s ∈ st.seats, U s.ch ∧ ∀ p ∈ s.stills, p.1.In U := fun s hs => by
    obtain ⟨_, _, t, _, S⟩ := F.seats s hs
    exact ⟨S.uch, fun p hp => (S.us p hp).1⟩
  have eK : CK P O base st.seats ρ' = CK P O base st.seats ρ := CK_agree A hseat hO
  refine ⟨M, _, T', hr, gs', w', sl', q', Inb, plus U st.c.h.nb c'.h.nb, ρ', γ, a', rfl, ?_⟩
  refine ⟨C', F.zero, F.inj, fun i hi => by rw [hsz]; exact F.lt i hi, F.hlt, ha, by rw [eK]; exact hin, by rw [eK]; exact Γ, fun s hs => ?_, F.all, F.nodup, F.keeps.trans kp.out, fun p hp => ?_⟩
  · obtain ⟨h1, h2, t, e, S⟩ := F.seats s hs
    exact ⟨h1, h2, t, e, S.agree A hO plus_sub⟩
  · rw [AA.ev_agree A (hO.mem p hp).1]; exact F.mem p hp

theorem markAt_call {c c' : ACfg} {dis : Bool} (he : markAt? O c = some (dis, c')) : ∃ o cl fr, opAt c = some o ∧ o.op = .call cl ∧ markOf? O c.cur.tmps cl = some dis ∧ finishA c.cur undefA = .ok fr ∧ c' = ⟨fr, c.callers, c.h⟩ := by
  unfold markAt? at he
  split at he
  · cases he
  rename_i o ho
  split at he
  rotate_left
  · cases he
  rename_i cl hop
  split at he
  · cases he
  rename_i dis' hm
  split at he
  rotate_left
  · cases he
  rename_i fr hf
  cases he
  exact ⟨o, cl, fr, ho, hop, hm, hf, rfl⟩

theorem mcrew1_ok {ext' : Ext} {sum' : Sums} (X : CrewSound P O ext sum) (X' : CrewSound P O' ext' sum') (l : OrcLe O' O) {f : Nat} {st' : CSt} (he : mcrew1? P O' ext' sum' f st = .ok st') (I : CInv P O base W0 cs st m T) : ∃ N m' T', runNT P N m T = (.next m', T') ∧ CInv P O base W0 cs st' m' T' := by
  unfold mcrew1? at he
  split at he
  · rename_i dis c' hm
    cases he
    obtain ⟨o, cl, fr, ho, hop, hmk, hf, rfl⟩ := markAt_call hm
    have hmk' : markOf? O st.c.cur.tmps cl = some dis := by
      unfold markOf? at hmk ⊢
      rw [← l.offs]; exact hmk
    exact cinv_mark X ho hop hmk' hf I
  · split at he
    · rename_i c' hs
      cases he
      refine cinv_leads (fun ρ main hmem => ?_) I
      have hmem' : ∀ p ∈ O'.mem, (p.1.ev ρ).block < base := by rw [l.mem]; exact hmem
      obtain ⟨N, L⟩ := crew_call X' (seats := st.seats) (main := main) (ρ := ρ) hmem' hs
      rw [CK_with l] at L
      exact ⟨N, Leads.more (K := CK P O base st.seats ρ) l L⟩
    · cases he
    · cases he

theorem mchunk_ok {ext' : Ext} {sum' : Sums} (X : CrewSound P O ext sum) (X' : CrewSound P O' ext' sum') (l : OrcLe O' O) {f n : Nat} {ks : List Nat} {st' : CSt} (he : mchunk? P O' ext' sum' f n ks st = .ok st') (I : CInv P O base W0 cs st m T) : ∃ N m' T', runNT P N m T = (.next m', T') ∧ CInv P O base W0 cs st' m' T' := by
  have key : ∀ {n : Nat} {st st' : CSt} {m : Machine} {T : Trace}, mcrew? P O' ext' sum' f n st = .ok st' → CInv P O base W0 cs st m T → ∃ N m' T', runNT P N m T = (.next m', T') ∧ CInv P O base W0 cs st' m' T' := by
    intro n
    induction n with
    | zero =>
      intro st st' m T he I
      have : (Except.ok st : M CSt) = .ok st' := he
      cases this
      exact ⟨0, m, T, rfl, I⟩
    | succ n ih =>
      intro st st' m T he I
      have he' : (match mcrew1? P O' ext' sum' f st with
        | .ok c => mcrew? P O' ext' sum' f n c
        | .error e => .error e) = .ok st' := he
      split at he'
      · rename_i c hs
        obtain ⟨N, m1, T1, h1, I1⟩ := mcrew1_ok X X' l hs I
        obtain ⟨M, m2, T2, h2, I2⟩ := ih he' I1
        exact ⟨N + M, m2, T2, runNT_then h1 h2, I2⟩
      · cases he'
  unfold mchunk? at he
  split at he
  · rename_i h cur callers hp nb lim seats next deaf hr
    cases he
    obtain ⟨N, m1, T1, h1, I1⟩ := key hr I
    exact ⟨N, m1, T1, h1, cinv_sieve I1⟩
  · cases he
end
end Go.Proofs.YtmnahfonnljobaaGreatDoor.SX
/-
  Temporaries in another tree: the same record. As closed data, and what it means.
-/
set_option linter.unusedVariables false
namespace Go.Proofs.YtmnahfonnljobaaGreatDoor.SX
open Go.Conc

noncomputable section
def TT.none : TT → Bool
  | .leaf => true
  | .node v l r => isUndef v && (l.none && r.none)
/-- The same at each number. -/
def TT.eqv : TT → TT → Bool
  | .leaf, t => t.none
  | .node v l r, .leaf => isUndef v && (l.none && r.none)
  | .node v l r, .node v' l' r' => AV.eqb v v' && (l.eqv l' && r.eqv r')
def swapT (c : ACfg) (t : TT) : ACfg :=
  match c with
  | ⟨⟨fn, nt, _, todo, defers, mode, kind⟩, callers, h⟩ => ⟨⟨fn, nt, t, todo, defers, mode, kind⟩, callers, h⟩
end

theorem isUndef_eq {v : AV} (h : isUndef v = true) : v = undefA := by
  unfold isUndef at h
  split at h
  · rfl
  · cases h
theorem none_get : ∀ {t : TT}, t.none = true → ∀ n, t.get n = undefA := by
  intro t
  induction t with
  | leaf => intro _ n; rfl
  | node v l r ihl ihr =>
    intro h n
    simp only [TT.none, Bool.and_eq_true] at h
    cases n with
    | zero => exact isUndef_eq h.1
    | succ m =>
      rw [TT.get_node_succ]
      split
      · exact ihr h.2.2 _
      · exact ihl h.2.1 _
theorem eqv_get : ∀ {t t' : TT}, t.eqv t' = true → ∀ n, t.get n = t'.get n := by
  intro t
  induction t with
  | leaf => intro t' h n; exact (none_get h n).symm
  | node v l r ihl ihr =>
    intro t' h n
    cases t' with
    | leaf => exact none_get (t := .node v l r) h n
    | node v' l' r' =>
      simp only [TT.eqv, Bool.and_eq_true] at h
      cases n with
      | zero => exact AV.eqb_eq _ _ h.1
      | succ m =>
        rw [TT.get_node_succ, TT.get_node_succ]
        split
        · exact ihr h.2.2 _
        · exact ihl h.2.1 _

section
variable {P : Program} {O : Orc} {base : Nat} {W0 : World} {cs : List Frame}
theorem TmpR.eqv {ρ : Env} {nt : Nat} {t t' : TT} {tm : Array Value} (h : TmpR ρ nt t tm) (e : t.eqv t' = true) : TmpR ρ nt t' tm :=
  ⟨h.size, h.le, fun n hn => by rw [← eqv_get e]; exact h.get n hn, fun n hn => by rw [← eqv_get e]; exact h.out n hn⟩
theorem Gam.eqv {K : Ctx} {ρ : Env} {c : ACfg} {g : Goroutine} {w : World} (Γ : Gam K ρ c cs g w) {t : TT} (e : c.cur.tmps.eqv t = true) : Gam K ρ (swapT c t) cs g w := by
  obtain ⟨⟨fn, nt, tmps, todo, defers, mode, kind⟩, callers, h⟩ := c
  obtain ⟨R, fr, frs, ⟨tm, td, i, rfl⟩, h2, h3⟩ := Γ
  exact ⟨R, _, frs, ⟨tm, td, ⟨i.tmps.eqv e, i.kind, i.todo, i.fn⟩, rfl⟩, h2, h3⟩
theorem CIds.eqv {K : Ctx} {U : Nat → Prop} {c : ACfg} (I : CIds K U c) {t : TT} (e : c.cur.tmps.eqv t = true) : CIds K U (swapT c t) := by
  obtain ⟨⟨fn, nt, tmps, todo, defers, mode, kind⟩, callers, h⟩ := c
  exact ⟨⟨fun n => by
      show (t.get n).In U
      rw [← eqv_get e]; exact I.cur.tmps n, I.cur.defers, I.cur.mode⟩, I.callers, I.ids⟩
theorem cinv_eqv {c : ACfg} {h next deaf : Nat} {seats : List ASeat} {m : Machine} {T : Trace} {t : TT} (e : c.cur.tmps.eqv t = true) (I : CInv P O base W0 cs ⟨h, c, seats, next, deaf⟩ m T) : CInv P O base W0 cs ⟨h, swapT c t, seats, next, deaf⟩ m T := by
  obtain ⟨gs, w, sl, q, Inb, U, ρ, γ, a, rfl, F⟩ := I
  exact ⟨gs, w, sl, q, Inb, U, ρ, γ, a, rfl, ⟨F.core, F.zero, F.inj, F.lt, F.hlt, F.here, F.ids.eqv e, F.gam.eqv e, F.seats, F.all, F.nodup, F.keeps, F.mem⟩⟩
end
end Go.Proofs.YtmnahfonnljobaaGreatDoor.SX
