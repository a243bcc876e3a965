/-
  The crew, sound: the holder's send.
-/
import Derived.Test.YtcpiafgkmakdiaaSxCrew2
set_option linter.unusedSectionVars false
set_option linter.unusedVariables false
set_option linter.unusedSimpArgs false
namespace Go.Proofs.Ytcpiafgkmakdiaa.SX
open Go.Conc

theorem opAt_ok {c : ACfg} {o : Oper} (h : opAt c = some o) : ∃ fn nt tmps ops i rest k defers kind callers hh, c = ⟨⟨fn, nt, tmps, .inRegion ops (i :: rest) :: k, defers, .run, kind⟩, callers, hh⟩ ∧ ops[i]? = some o ∧ o.guard = none := by
  unfold opAt at h
  split at h
  · rename_i fn nt tmps ops i rest k defers kind callers hh
    split at h
    · rename_i o' ho
      split at h
      · rename_i hg
        cases h
        exact ⟨_, _, _, _, _, _, _, _, _, _, _, rfl, ho, hg⟩
      · cases h
    · cases h
  · cases h

theorem takes_ok {ch : Nat} {s : ASeat} : ∀ {l r : List ASeat}, takes ch l = some (s, r) → s.ch = ch ∧ l.Perm (s :: r)
  | q :: l, r, h => by
    unfold takes at h
    split at h
    · rename_i e
      cases h
      exact ⟨Nat.eq_of_beq_eq_true e, List.Perm.refl _⟩
    · split at h
      · rename_i t r' h'
        cases h
        obtain ⟨h1, h2⟩ := takes_ok h'
        exact ⟨h1, (h2.cons q).trans (List.Perm.swap s q r')⟩
      · cases h

theorem apartOf_ok {i ch : Nat} : ∀ {l : List ASeat}, apartOf i ch l = true → ∀ s ∈ l, s.ch ≠ ch ∧ s.id ≠ i
  | q :: l, h, s, hs => by
    unfold apartOf at h
    split at h
    · rename_i h1 h2
      rcases List.mem_cons.1 hs with e | hs
      · subst e
        exact ⟨fun e => by rw [e] at h1; simp at h1, fun e => by rw [e] at h2; simp at h2⟩
      · exact apartOf_ok h s hs
    · cases h

section
variable {P : Program} {O : Orc} {ext : Ext} {sum : Sums} {base : Nat} {W0 : World} {cs : List Frame} {st : CSt} {gs : Array Goroutine} {w : World} {T : Trace} {q : Nat → Nat} {Inb : Nat → Option Tok.Seat} {U : Nat → Prop} {ρ : Env} {γ : Nat → Nat} {a : Goroutine} {m : Machine}

theorem chan_there {seats : List ASeat} {hp : List (Nat × ABlk)} {nb lim : Nat} (R : Rel (CK P O base seats ρ) ρ ⟨hp, nb, lim⟩ w) {i : Nat} (h : findB i hp = some .chan) : ∃ k, w.heap[ρ.b i]? = some (.chan 0 #[] false k k false) := by
  obtain ⟨o, ho, hi⟩ := R.blk _ _ h
  rcases hi with ⟨arr, _, hf⟩ | ⟨k, e⟩
  · exact hf.elim
  · exact ⟨k, by rw [ho, e]⟩

theorem seat_eq {hp : List (Nat × ABlk)} {i n : Nat} {c : ACfg} {s : ASeat} (h : seat? P O hp i c = .ok (n, s)) : s.id = i ∧ lrun? P (O.knows s.stills) noExt n c = .ok s.cfg ∧ recvAt? P s.cfg = some (.dyn s.ch, s.z, s.ok) := by
  unfold seat? at h
  split at h
  · cases h
  · split at h
    · cases h
    · rename_i c' hl
      split at h
      · rename_i ch z ok hr
        cases h
        exact ⟨rfl, hl, hr⟩
      · cases h

theorem knows_in {l : List (AA × AV)} (hO : O.In U) (hl : ∀ p ∈ l, p.1.In U ∧ p.2.In U) : (O.knows l).In U :=
  ⟨hO.bs, hO.is, fun p hp => (List.mem_append.1 hp).elim (hl p) (hO.mem p)⟩
theorem bare_in : O.bare.In U := ⟨fun p hp => (by cases hp), fun p hp => (by cases hp), fun p hp => (by cases hp)⟩

/-- One that goes its way to its seat. -/
theorem seat_sits (X : CrewSound P O ext sum) {seats : List ASeat} {hp : List (Nat × ABlk)} {nb lim : Nat} (R : Rel (CK P O base seats ρ) ρ ⟨hp, nb, lim⟩ w) (I : Ids (CK P O base seats ρ) U ⟨hp, nb, lim⟩) {i n : Nat} {c : ACfg} {s : ASeat} (h : seat? P O hp i c = .ok (n, s)) (hr : readsAll hp s.stills = true)
    (IL : LIds U c) {cs : List Frame} {g : Goroutine} (Γ : LGam P ρ c cs g) (main : Bool) : Sits P main (seatOf P O U ρ cs w.heap.size s).keep (seatOf P O U ρ cs w.heap.size s).still w.heap.size (seatOf P O U ρ cs w.heap.size s).base (n + 1) g := by
  obtain ⟨_, h1, h2⟩ := seat_eq h
  have k := seat_known R hr
  have hB : ∀ p ∈ (O.knows s.stills).mem, (p.1.ev ρ).block < w.heap.size := fun p hp => cell_lt (k.mem p hp)
  exact sits_of (main := main) (knows_sound X s.stills) (knows_in I.orc (seat_in I hr)) hB h1 h2 IL Γ k

theorem seat_fresh {seats : List ASeat} {hp : List (Nat × ABlk)} {nb lim : Nat} (R : Rel (CK P O base seats ρ) ρ ⟨hp, nb, lim⟩ w) (all : ∀ i t, Inb i = some t → ∃ s ∈ seats, ∃ cs, SeatIs P O base U ρ cs s t) (hok : seatsOk hp seats = true) {cs : List Frame} {s : ASeat} {i B : Nat} (hc : findB s.ch hp = some .chan) (hr : readsAll hp s.stills = true) (ha : apartOf i s.ch seats = true) :
    Tok.Fresh Inb w (seatOf P O U ρ cs B s) := by
  refine ⟨seat_wf _ s, seat_known R hr, chan_there R hc, fun j t e ec => ?_⟩
  obtain ⟨s2, hs2, cs2, S⟩ := all j t e
  have e2 : ρ.b s2.ch = ρ.b s.ch := S.c.symm.trans ec
  exact (apartOf_ok ha s2 hs2).1 (R.inj _ _ _ _ (seatsOk_ok hok s2 hs2).1 hc e2)

theorem size_setChan (w : World) (c cap : Nat) (buf : Array Value) (cl : Bool) (s r : Nat) (tm : Bool) : (w.setChan c cap buf cl s r tm).heap.size = w.heap.size := by
  simp [World.setChan]

/-- Behind a meeting. -/
theorem cinv_given {s : ASeat} {rest : List ASeat} {cur : AFrame} {callers : List AFrame} {hp : List (Nat × ABlk)} {nb lim h next : Nat} {seats seats' : List ASeat} (F : CFr P O base W0 cs ⟨h, ⟨cur, callers, ⟨hp, nb, lim⟩⟩, seats, next, 0⟩ gs w T q Inb U ρ γ a) (hperm : seats.Perm (s :: rest)) {t : Tok.Seat} (ht : Inb (γ s.id) = some t) (S : SeatIs P O base U ρ (csOf P cs s.id) s t)
    {tk : AFrame} {y : AV} (hy : y.In U) (hf : finishA s.cfg.cur (recvdA s.ok y) = .ok tk) (hok : seatsOk hp seats = true) {so : Option Tok.Seat} (hnew : (so = none ∧ seats' = rest) ∨ ∃ s' t', so = some t' ∧ seats' = s' :: rest ∧ s'.id = h ∧ findB s'.ch hp = some .chan ∧ stillsAt hp s'.stills = true ∧ SeatIs P O base U ρ (csOf P cs h) s' t')
    {m' : Machine} {T' : Trace} (G : Tok.Given P (Tok.pass Inb (γ h) (γ s.id) so) (γ s.id) t gs.size w (y.ev ρ) m' T') : CInv P O base W0 cs ⟨s.id, ⟨tk, s.cfg.callers, ⟨relabel seats' hp, nb, lim⟩⟩, seats', next, 0⟩ m' T' := by
  obtain ⟨gs', g₂, d, k, sl', q', rfl, hsz, hJ, hhome, hc, C'⟩ := G
  obtain ⟨IL, Γ⟩ := S.home g₂ hhome
  have hsm : s ∈ seats := hperm.mem_iff.2 (List.mem_cons_self ..)
  have hrm : ∀ x ∈ rest, x ∈ seats := fun x hx => hperm.mem_iff.2 (List.mem_cons_of_mem _ hx)
  have hnd : (s.id :: rest.map ASeat.id).Nodup := (hperm.map ASeat.id).nodup_iff.1 F.nodup
  have hv : (recvdA s.ok y).In U := by
    cases s.ok with
    | true => exact ⟨hy, trivial, trivial⟩
    | false => exact hy
  have hev : (recvdA s.ok y).ev ρ = recvd t.ok (y.ev ρ) true := by
    rw [S.ok]
    cases s.ok <;> rfl
  obtain ⟨IL', Γ'⟩ := served_ok Γ IL hv hf e0
  rw [hev] at Γ'
  obtain ⟨fr, frs, hfr, hfrs, hg⟩ := Γ'
  have R := F.gam.1
  have hgeS : ∀ x ∈ seats, base ≤ ρ.b x.ch := fun x hx => by
    obtain ⟨_, _, t2, _, S2⟩ := F.seats x hx
    exact S2.ge
  have hok' : seatsOk hp seats' = true := seatsOk_mk fun x hx => by
    rcases hnew with ⟨_, rfl⟩ | ⟨s', t', _, rfl, _, h1, h2, _⟩
    · exact seatsOk_ok hok x (hrm x hx)
    · rcases List.mem_cons.1 hx with rfl | hx
      · exact ⟨h1, h2⟩
      · exact seatsOk_ok hok x (hrm x hx)
  have hsh := F.seats s hsm
  have hne : ∀ x ∈ rest, γ x.id ≠ γ s.id ∧ γ x.id ≠ γ h := fun x hx => by
    have hx' := F.seats x (hrm x hx)
    exact ⟨fun e => (List.nodup_cons.1 hnd).1 (List.mem_map.2 ⟨x, hx, F.inj _ _ hx'.1 hsh.1 e⟩), fun e => hx'.2.1 (F.inj _ _ hx'.1 F.hlt e)⟩
  have hhs : γ s.id ≠ γ h := fun e => hsh.2.1 (F.inj _ _ hsh.1 F.hlt e)
  have hbase : base ≤ t.c := by rw [S.c]; exact S.ge
  refine ⟨gs', _, sl', q', _, U, ρ, γ, _, rfl, C', F.zero, F.inj, fun i hi => by rw [hsz]; exact F.lt i hi, hsh.1, hJ, ⟨IL'.cur, IL'.callers, ids_move F.ids.ids⟩, ⟨?_, fr, frs, hfr, hfrs, hg⟩, fun x hx => ?_, fun i t2 e => ?_, ?_, F.keeps.trans ⟨fun n hn => ?_, ?_, rfl, rfl, rfl⟩, F.mem⟩
  · refine rel_move R (size_setChan _ _ _ _ _ _ _ _) (fun n => ?_) F.mem hgeS hok hok'
    by_cases e : t.c = n
    · subst e
      exact .inr ⟨⟨k, hc⟩, ⟨k + 1, heap_setChan_self (w.at d) (c := t.c) hc _ _ _ _ _ _⟩⟩
    · exact .inl (heap_setChan_ne (w.at d) _ _ _ _ _ _ e)
  · have old : ∀ x ∈ rest, x.id < next ∧ x.id ≠ s.id ∧ ∃ t2, Tok.pass Inb (γ h) (γ s.id) so (γ x.id) = some t2 ∧ SeatIs P O base U ρ (csOf P cs x.id) x t2 := fun x hx => by
      obtain ⟨h1, h2, t2, e, S2⟩ := F.seats x (hrm x hx)
      exact ⟨h1, fun e => (hne x hx).1 (by rw [e]), t2, by rw [Tok.pass_ne Inb so (hne x hx).1 (hne x hx).2]; exact e, S2⟩
    rcases hnew with ⟨_, rfl⟩ | ⟨s', t', rfl, rfl, h0, h1, h2, S'⟩
    · exact old x hx
    · rcases List.mem_cons.1 hx with rfl | hx
      · refine ⟨by rw [h0]; exact F.hlt, by rw [h0]; exact fun e => hsh.2.1 e.symm, t', ?_, by rw [h0]; exact S'⟩
        rw [h0]; exact Tok.pass_h Inb hhs _
      · exact old x hx
  · unfold Tok.pass at e
    split at e
    · cases e
    · rename_i hi
      split at e
      · rename_i hih
        rcases hnew with ⟨rfl, rfl⟩ | ⟨s', t', rfl, rfl, h0, _⟩
        · cases e
        · exact ⟨s', List.mem_cons_self .., by rw [h0]; exact hih⟩
      · obtain ⟨x, hx, rfl⟩ := F.all i t2 e
        have hx' : x ∈ rest := by
          rcases List.mem_cons.1 (hperm.mem_iff.1 hx) with rfl | hx'
          · exact absurd rfl hi
          · exact hx'
        refine ⟨x, ?_, rfl⟩
        rcases hnew with ⟨_, rfl⟩ | ⟨s', t', _, rfl, _⟩
        · exact hx'
        · exact List.mem_cons_of_mem _ hx'
  · rcases hnew with ⟨_, rfl⟩ | ⟨s', t', _, rfl, h0, _⟩
    · exact (List.nodup_cons.1 hnd).2
    · refine List.nodup_cons.2 ⟨fun hm => ?_, (List.nodup_cons.1 hnd).2⟩
      obtain ⟨x, hx, e⟩ := List.mem_map.1 hm
      exact (F.seats x (hrm x hx)).2.1 (e.trans h0)
  · exact heap_setChan_ne (w.at d) _ _ _ _ _ _ (fun e => hn (by rw [← e]; exact hbase))
  · rw [size_setChan]; exact Nat.le_refl _

theorem cinv_give (X : CrewSound P O ext sum) {x y : Operand} {o : Oper} (ho : opAt st.c = some o) (hop : o.op = .send x y) {st' : CSt} (hg : give? P O x y st = .ok st') (I : CInv P O base W0 cs st m T) : ∃ N m' T', runNT P N m T = (.next m', T') ∧ CInv P O base W0 cs st' m' T' := by
  obtain ⟨gs, w, sl, q, Inb, U, ρ, γ, a, rfl, F⟩ := I
  obtain ⟨h, ⟨cur, callers, ⟨hp, nb, lim⟩⟩, seats, next, deaf⟩ := st
  obtain ⟨fn, nt, tmps, ops, i, rst, k, defers, kind, callers', hh, e, hoi, hgd⟩ := opAt_ok ho
  cases e
  have Γ : LGam P ρ ⟨⟨fn, nt, tmps, .inRegion ops (i :: rst) :: k, defers, .run, kind⟩, callers, ⟨hp, nb, lim⟩⟩ (csOf P cs h) a := F.gam.2
  have IL : LIds U ⟨⟨fn, nt, tmps, .inRegion ops (i :: rst) :: k, defers, .run, kind⟩, callers, ⟨hp, nb, lim⟩⟩ := ⟨F.ids.cur, F.ids.callers⟩
  have R := F.gam.1
  obtain ⟨tm, frs, h1, h2, h3, hc, ea⟩ := lg_run.1 Γ
  have hw : Region.wanted o (yielded ops tm) = true := by unfold Region.wanted; rw [hgd]
  have hke : (mkF fn kind).kind ≠ .early := by rcases h2 with rfl | rfl <;> simp [mkF]
  unfold give? at hg
  dsimp only at hg
  split at hg
  · rename_i ch hx
    split at hg
    · cases hg
    · rename_i s rest htk
      obtain ⟨hsch, hperm⟩ := takes_ok htk
      have hsm : s ∈ seats := hperm.mem_iff.2 (List.mem_cons_self ..)
      obtain ⟨hs1, hs2, t, ht, S⟩ := F.seats s hsm
      split at hg
      · rename_i tk gv hft hfg
        have hR : ∀ w es, (execOp (⟨tm, defers.map (AD.ev ρ)⟩ : Act).eval o).runT P w es = (.ok (.comm #[scase t.c ((evalA tmps y).ev ρ) (.tuple #[])] true .send) w, es) := by
          intro w es
          unfold execOp
          rw [hop]
          have e1 : (⟨tm, defers.map (AD.ev ρ)⟩ : Act).eval x = .chan (some t.c) := by rw [evalA_ev h1, hx, S.c, hsch]; rfl
          have e2 : (⟨tm, defers.map (AD.ev ρ)⟩ : Act).eval y = (evalA tmps y).ev ρ := evalA_ev h1 _ y
          dsimp only
          rw [e1, e2]
          rfl
        have hsend : ∀ d, stepG P (γ h == 0) a (w.at d) = .comm a #[scase t.c ((evalA tmps y).ev ρ) (.tuple #[])] true .send (w.at d) #[] := by
          intro d
          have r1 : (execOp (⟨tm, defers.map (AD.ev ρ)⟩ : Act).eval o).run P (w.at d) = .ok (.comm #[scase t.c ((evalA tmps y).ev ρ) (.tuple #[])] true .send) (w.at d) := by
            have := congrArg Prod.fst (hR (w.at d) #[])
            rw [Sem.runT_fst] at this
            exact this
          rw [ea, stepG_comm hoi hw hke r1, listed_none (congrArg Prod.snd (hR (w.at d) #[]))]
        have hrun : a.status = .running := by rw [ea]; rfl
        have hjh : γ s.id ≠ γ h := fun e => hs2 (F.inj _ _ hs1 F.hlt e)
        have hyU : (evalA tmps y).In U := evalA_in IL.cur.tmps y
        obtain ⟨ILg, Γg⟩ := served_ok Γ IL (v := undefA) (by simp [undefA, AV.In, AV.Ins]) hfg e0
        have Γg' : LGam P ρ ⟨gv, callers, e0⟩ (csOf P cs h) (Conc.served a undef) := Γg
        have give := fun {so : Option Tok.Seat} {nh : Nat} (hso : ∀ s', so = some s' → Tok.Fresh Inb w s') (hafter : ∀ T', Deaf T' (γ h) = 0 → Tok.Rest P T' (γ h) nh (Conc.served a undef) so) =>
          Tok.give (P := P) (j := γ s.id) (s := t) (sl := sl) hjh (F.lt _ hs1) ht F.here hrun hsend (by simp) F.core hso hafter
        split at hg
        · rename_i hl
          split at hg
          · rename_i hok
            cases hg
            have hh0 : h ≠ 0 := fun e => by subst e; simp at hl
            have hl' : leave? P O.bare noExt 400 ⟨gv, callers, e0⟩ = true := by
              have : Nat.beq h 0 = false := by
                cases hb : Nat.beq h 0 with
                | false => rfl
                | true => exact absurd (Nat.eq_of_beq_eq_true hb) hh0
              rw [this] at hl
              exact hl
            have ecs : csOf P cs h = [baseF P] := by unfold csOf; rw [if_neg hh0]
            rw [ecs] at Γg'
            obtain ⟨mq, hq⟩ := leave_quits (O := O.bare) rfl rfl rfl (bare_sound X) bare_in hl' ILg Γg'
            have hpos : 0 < γ h := by
              rcases Nat.eq_zero_or_pos (γ h) with e | e
              · exact absurd (F.inj h 0 F.hlt (Nat.lt_of_le_of_lt (Nat.zero_le _) F.hlt) (e.trans F.zero.symm)) hh0
              · exact e
            obtain ⟨N, m', T', hr, hG⟩ := give (so := none) (nh := mq) (fun s' e => by cases e) (fun T' hD => ⟨hpos, by rw [hD]; exact hq⟩)
            exact ⟨N, m', T', hr, cinv_given F hperm ht S hyU hft hok (.inl ⟨rfl, rfl⟩) hG⟩
          · cases hg
        · split at hg
          · cases hg
          · rename_i ns s' hse
            split at hg
            · rename_i hok hch hrd hap
              cases hg
              have hid := (seat_eq hse).1
              have hch' := isChanAt_ok hch
              have hgeS : ∀ x ∈ seats, base ≤ ρ.b x.ch := fun x hx => by
                obtain ⟨_, _, t2, _, S2⟩ := F.seats x hx
                exact S2.ge
              obtain ⟨N, m', T', hr, hG⟩ := give (so := some (seatOf P O U ρ (csOf P cs h) w.heap.size s')) (nh := ns + 1) (fun t' e => by cases e; exact seat_fresh R F.all' hok hch' hrd hap)
                (fun T' hD => seat_sits X R F.ids.ids hse hrd ILg Γg' _)
              exact ⟨N, m', T', hr, cinv_given F hperm ht S hyU hft hok (.inr ⟨s', _, rfl, rfl, hid, hch', reads_stills hrd, seat_is R F.ids.ids _ hrd hch' (rel_ge R hgeS hok hch')⟩) hG⟩
            · cases hg
      · cases hg
  · cases hg
end
end Go.Proofs.Ytcpiafgkmakdiaa.SX
