/-
  Frames told by values: no assignment in sight. A frame whose deferred calls are an open list is presented as a marked one.
-/
import Derived.Test.YtmnahfonnljobaaGreatDoorSxParts
set_option linter.unusedSectionVars false
set_option linter.unusedVariables false
set_option linter.unusedSimpArgs false
namespace Go.Proofs.YtmnahfonnljobaaGreatDoor.SX
open Go.Conc

/-- A frame at work: where it stands, what is deferred, what some of its temporaries hold. -/
structure FAt (P : Program) (fn : FuncId) (nt : Nat) (todo : List Item) (ds : List Deferred) (kind : CallKind) (lv : List (Nat × Value)) (fr : Frame) : Prop where
  ex : ∃ tm, fr = (mkF fn kind).at ⟨tm, ds⟩ todo ∧ tm.size = nt ∧ ∀ p ∈ lv, tm.getD p.1 undef = p.2
  le : nt ≤ 60000
  fn : ∃ f, P.funcs[fn]? = some f
/-- What its temporaries hold. -/
def stOf (fr : Frame) (n : Nat) : Value := fr.tmps.getD n undef
def told (ρ : Env) (lv : List (Nat × AV)) : List (Nat × Value) := lv.map fun p => (p.1, p.2.ev ρ)

section
variable {P : Program} {ρ : Env} {fn : FuncId} {nt : Nat} {todo : List Item} {ds : List Deferred} {kind : CallKind} {lv : List (Nat × Value)} {fr : Frame}

theorem FAt.sub (h : FAt P fn nt todo ds kind lv fr) {lv' : List (Nat × Value)} (hs : ∀ p ∈ lv', p ∈ lv) : FAt P fn nt todo ds kind lv' fr := by
  obtain ⟨⟨tm, h1, h2, h3⟩, h4, h5⟩ := h
  exact ⟨⟨tm, h1, h2, fun p hp => h3 p (hs p hp)⟩, h4, h5⟩
theorem told_tmps {tm : Array Value} (hsz : tm.size = nt) (hle : nt ≤ 60000) {lA : List (Nat × AV)} (h : ∀ p ∈ told ρ lA, tm.getD p.1 undef = p.2) : TmpR ρ nt (tmpsOf nt (fun n => tm.getD n undef) lA) tm := by
  refine ⟨hsz, hle, fun n hn => ?_, fun n hn => ?_⟩
  · rw [tmpsOf_get hle, if_pos hn]
    have hg : tm[n]? = some (tm.getD n undef) := by
      rw [Array.getD_eq_getD_getElem?]
      rw [Array.getElem?_eq_getElem (by omega)]
      rfl
    rw [hg]
    cases e : look (fun a b => Nat.beq a b) n lA with
    | none => simp [AV.ev]
    | some a =>
      obtain ⟨x, hx, he⟩ := look_some e
      obtain rfl := Nat.eq_of_beq_eq_true he
      have := h (n, a.ev ρ) (List.mem_map.2 ⟨(n, a), hx, rfl⟩)
      dsimp only at this
      rw [this]
      rfl
  · rw [tmpsOf_get hle, if_neg (by omega)]
/-- As closed data want it. -/
theorem FAt.rel (h : FAt P fn nt todo ds kind lv fr) (hk : plainK kind) (lA : List (Nat × AV)) (hl : told ρ lA = lv) {dA : List AD} (hd : dA.map (AD.ev ρ) = ds) : FrRel P ρ ⟨fn, nt, tmpsOf nt (stOf fr) lA, todo, dA, .run, kind⟩ fr := by
  obtain ⟨⟨tm, rfl, h2, h3⟩, h4, h5⟩ := h
  subst hl
  refine ⟨tm, todo, ⟨told_tmps h2 h4 h3, .inl hk, fun _ => rfl, h5⟩, ?_⟩
  unfold frameOf
  dsimp only
  rw [plain_at hk, hd]
  rfl
/-- Likewise, where its deferred calls are an open list. -/
theorem FAt.open' (h : FAt P fn nt todo ds .normal lv fr) (hb : ρ.bt = (none, ds)) (lA : List (Nat × AV)) (hl : told ρ lA = lv) : FrRel P ρ ⟨fn, nt, tmpsOf nt (stOf fr) lA, todo, [], .run, .wrapped⟩ fr := by
  obtain ⟨⟨tm, rfl, h2, h3⟩, h4, h5⟩ := h
  subst hl
  refine ⟨tm, todo, ⟨told_tmps h2 h4 h3, .inr rfl, fun _ => rfl, h5⟩, ?_⟩
  unfold frameOf bB aB dB
  rw [hb]
  rfl
theorem zip_told {t : TT} : ∀ {live : List Nat} {p : Nat × Value}, p ∈ live.zip (AV.evs ρ (live.map fun n => t.get n)) → p.2 = (t.get p.1).ev ρ
  | [], p, h => by cases h
  | n :: l, p, h => by
    simp only [List.map_cons, AV.evs, List.zip_cons_cons, List.mem_cons] at h
    rcases h with rfl | h
    · rfl
    · exact zip_told h
/-- What is seen of a frame at a piece's end. -/
theorem FAt.of {a : AFrame} {live : List Nat} {vals : List AV} {dA : List AD} (h : FrRel P ρ a fr) (s : frSeen a live = ⟨fn, nt, todo, dA, .run, kind, [], [], vals⟩) (hk : plainK kind) : FAt P fn nt todo (dA.map (AD.ev ρ)) kind (live.zip (AV.evs ρ vals)) fr := by
  obtain ⟨fn', nt', t, todo', ds', mode, kind'⟩ := a
  simp only [frSeen, Seen.mk.injEq] at s
  obtain ⟨rfl, rfl, rfl, rfl, rfl, rfl, _, _, rfl⟩ := s
  obtain ⟨tm, td, i, rfl⟩ := h
  refine ⟨⟨tm, ?_, i.tmps.size, fun p hp => ?_⟩, i.tmps.le, i.fn⟩
  · have ht : td = todo' := i.todo rfl
    unfold frameOf
    dsimp only
    rw [plain_at hk, ht]
    rfl
  · rw [zip_told hp]
    exact i.tmps.getD p.1
theorem FAt.ofOpen {a : AFrame} {live : List Nat} {vals : List AV} (h : FrRel P ρ a fr) (s : frSeen a live = ⟨fn, nt, todo, [], .run, .wrapped, [], [], vals⟩) (hb : ρ.bt = (none, ds)) : FAt P fn nt todo ds .normal (live.zip (AV.evs ρ vals)) fr := by
  obtain ⟨fn', nt', t, todo', ds', mode, kind'⟩ := a
  simp only [frSeen, Seen.mk.injEq] at s
  obtain ⟨rfl, rfl, rfl, rfl, rfl, rfl, _, _, rfl⟩ := s
  obtain ⟨tm, td, i, rfl⟩ := h
  refine ⟨⟨tm, ?_, i.tmps.size, fun p hp => ?_⟩, i.tmps.le, i.fn⟩
  · have ht : td = todo' := i.todo rfl
    unfold frameOf bB aB dB
    dsimp only
    rw [hb, ht]
    rfl
  · rw [zip_told hp]
    exact i.tmps.getD p.1
end
end Go.Proofs.YtmnahfonnljobaaGreatDoor.SX
/-
  A region that draws its order, in whose midst a call is made that is walked through by hand: up to the call; from behind it to the region's end.
-/
set_option linter.unusedSectionVars false
set_option linter.unusedVariables false
set_option linter.unusedSimpArgs false
namespace Go.Proofs.YtmnahfonnljobaaGreatDoor.SX
open Go.Conc

noncomputable def midOp (P : Program) (O : Orc) (ext : Ext) (nt : Nat) (ops : Array Oper) (infos : List Info) (tmps : TT) (h : AH) : Option (Nat × List Nat × Nat × TT) :=
  match infos.filter fun x => !x.2.2.2 with
  | [x] => match Nat.ble ops.size 65536 && regionOk ops infos with
    | false => none
    | true => match soakM P O ext nt ops (bare h) infos [] 0 tmps with
      | .error _ => none
      | .ok (s, m, t) => match canM m x && (infos.all fun y => Nat.beq y.1 x.1 || (match inM m y.1 with
          | true => inM (belowM infos x.2.2.1) y.1
          | false => !canM m y)) && holdsQ P O ext nt ops m t (bare h) infos with
        | true => some (x.1, s, m, t)
        | false => none
  | _ => none
noncomputable def restOp (P : Program) (O : Orc) (ext : Ext) (nt : Nat) (ops : Array Oper) (infos : List Info) (s : List Nat) (m : Nat) (t : TT) (h : AH) : Option TT :=
  match regionOk ops infos with
  | false => none
  | true => match soakM P O ext nt ops (bare h) infos s m t with
    | .error _ => none
    | .ok (_, m3, t3) => match (infos.all fun y => inM m3 y.1) && holdsQ P O ext nt ops (remM infos m3) t3 (bare h) infos with
      | true => some t3
      | false => none

/-- What lies behind the call: what has been drawn, what will be. -/
structure MidL (ops : Array Oper) (j : Nat) (s : List Nat) (m : Nat) (l : List Nat) : Prop where
  ex : ∃ r, (∀ a, a ∈ r ↔ a ∈ s) ∧ Down ops (j :: r) ∧ Sched ops (j :: r) l
  cons : Cons (j :: s) (addM m j)
  topo : Topo ops (j :: s)

section
variable {K : Ctx} {main : Bool} {nt : Nat} {ops : Array Oper} {k : List Item}
theorem noCall_ok : CallOk K main (fun _ _ _ => .error "no call") := fun _ _ _ _ h => by cases h

theorem midOp_ok (Gd : K.Good) (F : K.Facts) {ext : Ext} (X : ExtOk K ext) {tmps t : TT} {h : AH} {j m : Nat} {s : List Nat} {id : Nat} (he : midOp K.P K.O ext nt ops (infosOf ops) tmps h = some (j, s, m, t)) {fn : FuncId} {defers : List AD} {kind : CallKind} {callers : List AFrame}
    {U : Nat → Prop} {ρ : Env} {cs : List Frame} {g : Goroutine} {w : World} (I : CIds K U ⟨⟨fn, nt, tmps, .code (.region id ops true) :: k, defers, .run, kind⟩, callers, h⟩) (Γ : Gam K ρ ⟨⟨fn, nt, tmps, .code (.region id ops true) :: k, defers, .run, kind⟩, callers, h⟩ cs g w) :
    Walk K.P main (DK K) (fun g' w' => ∃ l ρ', MidL ops j s m l ∧ Agree U ρ ρ' ∧ Keeps K.own w w' ∧ CIds K U ⟨⟨fn, nt, t, .inRegion ops (j :: l) :: k, defers, .run, kind⟩, callers, h⟩ ∧ Gam K ρ' ⟨⟨fn, nt, t, .inRegion ops (j :: l) :: k, defers, .run, kind⟩, callers, h⟩ cs g' w') 0 g w := by
  unfold midOp at he
  split at he
  · rename_i x hx
    split at he
    · cases he
    · rename_i hb
      simp only [Bool.and_eq_true] at hb
      obtain ⟨hb1, hb2⟩ := hb
      split at he
      · cases he
      · rename_i s0 m0 t0 hso
        split at he
        · rename_i hz
          simp only [Bool.and_eq_true] at hz
          obtain ⟨⟨z1, z2⟩, z3⟩ := hz
          cases he
          have hnt := gam_nt Γ
          have S := soakM_ok hnt (fun _ x => x) cons_nil (show Topo ops [] from trivial) hso
          have hxm : x ∈ infosOf ops := (List.mem_filter.1 (show x ∈ (infosOf ops).filter fun x => !x.2.2.2 by rw [hx]; exact List.mem_singleton.2 rfl)).1
          obtain ⟨j, oj, hoj, rfl⟩ := mem_infos.1 hxm
          dsimp only at z1 z2 ⊢
          have hjr : j ∈ readyIn ops s := (can_iff S.cons hoj).1 z1
          have hjs : j ∉ s := (readyIn_mem hjr).2
          rw [List.all_eq_true] at z2
          have cover : ∀ i, i < ops.size → i ≠ j → (i ∈ s ∧ inM (belowM (infosOf ops) (predMask oj.after.toList)) i = true) ∨ (i ∉ s ∧ i ∉ readyIn ops s) := by
            intro i hi hne
            have hoi : ops[i]? = some ops[i] := Array.getElem?_eq_getElem hi
            have := z2 _ (mem_infos.2 ⟨i, ops[i], hoi, rfl⟩)
            simp only [Bool.or_eq_true] at this
            rcases this with h1 | h1
            · exact absurd (Nat.eq_of_beq_eq_true h1) hne
            · cases hm : inM m i with
              | true =>
                rw [hm] at h1
                exact .inl ⟨(S.cons i).1 hm, h1⟩
              | false =>
                rw [hm] at h1
                refine .inr ⟨fun hs => ?_, fun hr => ?_⟩
                · rw [(S.cons i).2 hs] at hm; cases hm
                · have := (can_iff S.cons hoi).2 hr
                  rw [this] at h1; cases h1
          refine (Walk.trans (m := 0) (fun g' w' ⟨q, kp, Γ'⟩ => ?_) (draw_step (main := main) F Γ)).any
          have I0 : CIds K U ⟨⟨fn, nt, tmps, .inRegion ops (Region.schedule true ops q) :: k, defers, .run, kind⟩, callers, bare h⟩ :=
            ⟨⟨I.cur.tmps, I.cur.defers, trivial⟩, I.callers, ⟨I.ids.hp, I.ids.keys, I.ids.nodup, fun n h1 h2 => (by simp [bare] at h2), I.ids.orc⟩⟩
          refine (pend2 Gd F X noCall_ok hb2 S.cons z3 (Near.begin S) (schedule_sched ops q) (fun i hi => by cases hi) I0 Γ').weaken fun g2 w2 p => ?_
          obtain ⟨r', tr', l', ρ2, dn, N, sc, A2, kp2, I2, Γ2, hl⟩ := p
          rcases hl with rfl | ⟨i, l2, rfl, hi⟩
          · have := (N.over S.topo sc).2.1
            rw [this] at hjr; cases hjr
          · have hir := sc.1
            have hrs : i ∈ readyIn ops s := by
              obtain ⟨_, o, ho, hp⟩ := ready_iff.1 hir
              exact ready_iff.2 ⟨hi, o, ho, fun e he hbb => N.sub _ (hp e he hbb)⟩
            have hij : i = j := Classical.byContradiction fun hne => by
              rcases cover i (readyIn_mem hir).1 hne with h1 | h1
              · exact hi h1.1
              · exact h1.2 hrs
            subst hij
            have hpr : ∀ a, inM (predMask oj.after.toList) a = true → a ∈ r' := by
              intro a ha
              obtain ⟨e, he, hbb, rfl⟩ := inM_pred.1 ha
              obtain ⟨_, o', ho', hp⟩ := ready_iff.1 hir
              rw [hoj] at ho'; cases ho'
              exact hp e he hbb
            have hall : ∀ a, a ∈ s → a ∈ r' := fun a ha => by
              have hlt : a < ops.size := S.topo.lt a ha
              rcases cover a hlt (fun e => hjs (e ▸ ha)) with h1 | h1
              · exact belowM_sub dn (fun _ x => x) hpr a h1.2
              · exact absurd ha h1.1
            have same : ∀ n, tr'.get n = t.get n := fun n => by
              rcases Nat.lt_or_ge n nt with hlt | hge
              · exact N.same n hlt fun ⟨a, o, h1, h2, h3, h4⟩ => h2 (hall a h1)
              · exact N.out n hge
            have I3 := cids_tt same I2
            exact ⟨l2, ρ2, ⟨⟨r', fun a => ⟨N.sub a, hall a⟩, dn.cons hir, sc.2⟩, S.cons.add, ⟨hjr, S.topo⟩⟩, A2, kp.trans kp2, ⟨I3.cur, I3.callers, I.ids⟩, gam_tt same Γ2⟩
        · cases he
  · cases he

theorem restOp_ok (Gd : K.Good) (F : K.Facts) {ext : Ext} (X : ExtOk K ext) {t t3 : TT} {h : AH} {j m : Nat} {s l : List Nat} (he : restOp K.P K.O ext nt ops (infosOf ops) (j :: s) (addM m j) t h = some t3) (hl : MidL ops j s m l) {fn : FuncId} {defers : List AD} {kind : CallKind} {callers : List AFrame}
    {U : Nat → Prop} {ρ : Env} {cs : List Frame} {g : Goroutine} {w : World} (I : CIds K U ⟨⟨fn, nt, t, .inRegion ops l :: k, defers, .run, kind⟩, callers, h⟩) (Γ : Gam K ρ ⟨⟨fn, nt, t, .inRegion ops l :: k, defers, .run, kind⟩, callers, h⟩ cs g w) :
    Walk K.P main (DK K) (fun g' w' => ∃ ρ', Agree U ρ ρ' ∧ Keeps K.own w w' ∧ CIds K U ⟨⟨fn, nt, t3, .inRegion ops [] :: k, defers, .run, kind⟩, callers, h⟩ ∧ Gam K ρ' ⟨⟨fn, nt, t3, .inRegion ops [] :: k, defers, .run, kind⟩, callers, h⟩ cs g' w') 0 g w := by
  unfold restOp at he
  split at he
  · cases he
  rename_i hok
  split at he
  · cases he
  rename_i s3 m3 t3' hso
  split at he
  rotate_left
  · cases he
  rename_i hz
  cases he
  simp only [Bool.and_eq_true] at hz
  obtain ⟨z1, z2⟩ := hz
  obtain ⟨r, hr, dn, sc⟩ := hl.ex
  have S := soakM_ok (gam_nt Γ) (fun _ x => x) hl.cons hl.topo hso
  have hrj : ∀ a, a ∈ j :: r ↔ a ∈ j :: s := fun a => by rw [List.mem_cons, List.mem_cons, hr a]
  have N : Near ops nt s3 (j :: r) t3 t := by
    refine ⟨fun i hi => S.sub i ((hrj i).1 hi), fun i hi hn => S.quiet i hi fun h => hn ((hrj i).2 h), fun n hlt hn => (S.same n fun ⟨i, o, h1, h2, h3, h4, h5⟩ => hn ⟨i, o, h1, fun h => h2 ((hrj i).1 h), h3, h4⟩).symm, fun n hge => (S.same n fun ⟨i, o, h1, h2, h3, h4, h5⟩ => absurd h5 (Nat.not_lt.2 hge)).symm, dn⟩
  have all3 : ∀ i, i < ops.size → i ∈ s3 := fun i hi => by
    have := List.all_eq_true.1 z1 _ (mem_infos.2 ⟨i, ops[i], Array.getElem?_eq_getElem hi, rfl⟩)
    exact (S.cons i).1 this
  have I0 : CIds K U ⟨⟨fn, nt, t, .inRegion ops l :: k, defers, .run, kind⟩, callers, bare h⟩ :=
    ⟨⟨I.cur.tmps, I.cur.defers, trivial⟩, I.callers, ⟨I.ids.hp, I.ids.keys, I.ids.nodup, fun n h1 h2 => (by simp [bare] at h2), I.ids.orc⟩⟩
  refine (pend Gd F X noCall_ok hok S.cons z2 N sc I0 Γ).weaken fun g2 w2 p => ?_
  obtain ⟨r', tr', l', ρ2, N2, sc2, A2, kp2, I2, Γ2, hl2⟩ := p
  have hl0 : l' = [] := by
    rcases hl2 with h | ⟨i, l'', rfl, hi⟩
    · exact h
    · exact absurd (all3 i (readyIn_mem sc2.1).1) hi
  subst hl0
  have same := (N2.over S.topo sc2).2.2
  have I3 := cids_tt same I2
  exact ⟨ρ2, A2, kp2, ⟨I3.cur, I3.callers, I.ids⟩, gam_tt same Γ2⟩
end
end Go.Proofs.YtmnahfonnljobaaGreatDoor.SX
