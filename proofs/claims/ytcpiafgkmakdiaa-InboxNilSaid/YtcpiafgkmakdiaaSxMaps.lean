/-
  Channels and maps.
-/
import Derived.Test.YtcpiafgkmakdiaaSxOp8
set_option linter.unusedSectionVars false
set_option linter.unusedVariables false
set_option linter.unusedSimpArgs false
namespace Go.Proofs.Ytcpiafgkmakdiaa.SX

section
variable {K : Ctx} {ρ : Env} {h : AH} {w : World} {U : Nat → Prop}

theorem is_map {P : Program} {es : List (AV × AV)} {o : Obj} (h : (ABlk.map es).is P ρ o) : ∃ arr clk, o = .map arr clk ∧ arr.toList.map (fun e => (e.key, e.val)) = es.map fun p => (p.1.ev ρ, p.2.ev ρ) := by
  rcases h with ⟨arr, _, h⟩ | h
  · exact h.elim
  · exact h

theorem wq_getObj {P : Program} {Ev : Event → Prop} {E : Value → World → Prop} {r : Nat} {o : Obj} (h1 : w.heap[r]? = some o) (h2 : ∀ c e f, o ≠ .cells c e f) (h3 : Ev ⟨.obj r, false, o.isChan⟩) {Q : Obj → World → Prop} (hq : Q o w) : wq P Ev E (getObj r) Q w :=
  ⟨o, h1, h2, h3, hq⟩

theorem wq_setObj {P : Program} {Ev : Event → Prop} {E : Value → World → Prop} {r : Nat} {o o' : Obj} (h1 : w.heap[r]? = some o') (h2 : ∀ c e f, o' ≠ .cells c e f) (h3 : Ev ⟨.obj r, true, o.isChan⟩) {Q : Unit → World → Prop} (hq : Q () { w with heap := w.heap.setIfInBounds r o }) : wq P Ev E (setObj r o) Q w :=
  ⟨⟨o', h1, h2⟩, h3, hq⟩

/-- A new object. -/
theorem allocO?_sound (R : Rel K ρ h w) (I : Ids K U h) {b : ABlk} {mk : BR → AV} {v : AV} {h' : AH} (ha : allocO? h b mk = .ok (v, h')) (hb : b.In U) (hmk : ∀ r, BR.In (plus U h.nb (h.nb + 1)) r → (mk r).In (plus U h.nb (h.nb + 1))) (hst : ∀ n, b.isLent n = b.isLent n) :
    v.In (plus U h.nb h'.nb) ∧ Grows K U h h' ∧ ∀ o, b.is K.P ρ o → After K U ρ w h' (fun ρ' => v.ev ρ' = (mk (.dyn h.nb)).ev (ρ.upd h.nb w.heap.size 0)) { w with heap := w.heap.push o } := by
  obtain ⟨hp, nb, lim⟩ := h
  simp only [allocO?] at ha
  split at ha
  · rename_i hlt
    cases ha
    have hnu : ¬ U nb := I.fresh _ (Nat.le_refl _) hlt
    refine ⟨hmk _ (.inr ⟨Nat.le_refl _, Nat.lt_succ_self _⟩), ⟨Nat.le_succ _, rfl, I.ins hlt (ABlk.In.mono plus_sub hb)⟩, fun o ho => ?_⟩
    obtain ⟨R', kp⟩ := R.push o
    refine ⟨ρ.upd nb w.heap.size 0, agree_upd hnu, R'.insO I hlt (by simp) (R.room _ (Nat.le_refl _)) (fun j x hx e => ?_) (fun n hs => by have := R.low _ n hs; omega) (is_agree (agree_upd hnu) hb ho), kp, rfl⟩
    obtain ⟨arr', ha, _⟩ := R.blk j x hx
    have := heap_lt ha
    omega
  · cases ha

theorem makeChan_ok (R : Rel K ρ h w) (I : Ids K U h) {t : TypeId} {s v : AV} {h' : AH} (ha : makeChan? K.P h t s = .ok (v, h')) : HOk K U ρ h w (Instr.makeChan t (s.ev ρ)) v h' := by
  unfold makeChan? at ha
  split at ha
  · rename_i k d elem hu
    split at ha
    · rename_i i hi
      obtain ⟨h1, h2, h3⟩ := allocO?_sound R I ha trivial (fun r hr => hr) (fun _ => rfl)
      refine ⟨h1, h2, fun {E Q} hq => ?_⟩
      simp only [Instr.makeChan, AV.ev, IE.ev, wq_bind, asInt, asIntOf, wq_pure, wq_underlying hu, wq_typeInfo hi]
      have hm : ¬ (Int.ofNat 0 < 0 ∨ Int.ofNat 0 > IntKind.i64.max ∨ (i.bytes : Int) * Int.ofNat 0 > 2 ^ 48 - 112) := by
        simp [IntKind.max, IntKind.bits]
        decide
      simp only [hm, if_false, wq_bind, wq_pure, wq_newObj]
      obtain ⟨ρ', a1, a2, a3, a4⟩ := h3 (.chan 0 #[] false 0 0 false) (.inr ⟨0, rfl⟩)
      refine hq _ _ ⟨ρ', a1, a2, a3, ?_⟩
      show Value.chan (some w.heap.size) = v.ev ρ'
      rw [a4]
      simp [AV.ev, BR.ev, Env.upd]
    · cases ha
  · cases ha

theorem makeMap_ok (R : Rel K ρ h w) (I : Ids K U h) {t : TypeId} {r : Option AV} {v : AV} {h' : AH} (ha : makeMap? h r = .ok (v, h')) : HOk K U ρ h w (Instr.makeMap t (r.map (AV.ev ρ))) v h' := by
  unfold makeMap? at ha
  split at ha
  · obtain ⟨h1, h2, h3⟩ := allocO?_sound R I ha (fun p hp => by cases hp) (fun r hr => hr) (fun _ => rfl)
    refine ⟨h1, h2, fun {E Q} hq => ?_⟩
    simp only [Instr.makeMap, Option.map_none, wq_bind, wq_pure, wq_newObj]
    obtain ⟨ρ', a1, a2, a3, a4⟩ := h3 (.map #[] 0) (.inr ⟨#[], 0, rfl, rfl⟩)
    refine hq _ _ ⟨ρ', a1, a2, a3, ?_⟩
    show Value.map (some w.heap.size) = v.ev ρ'
    rw [a4]
    simp [AV.ev, BR.ev, Env.upd]
  · cases ha

/-! ### Looks -/
def Found (ρ : Env) (w : World) (Q : Option (Nat × Value) → World → Prop) : Option AV → Prop
  | some v => ∀ j, Q (some (j, v.ev ρ)) w
  | none => Q none w

theorem wq_findAsking (R : Rel K ρ h w) {E : Value → World → Prop} {key : TypeId} {k : AV} : ∀ {es : List (AV × AV)} {L : List MapEntry} {i : Nat} {r : Option AV}, L.map (fun e => (e.key, e.val)) = es.map (fun p => (p.1.ev ρ, p.2.ev ρ)) →
    findA? K.P K.O h key k es = .ok r → ∀ {Q : Option (Nat × Value) → World → Prop}, Found ρ w Q r → wq K.P K.Ev E (Instr.findAsking key (k.ev ρ) L i) Q w := by
  intro es
  induction es with
  | nil =>
    intro L i r hL he Q hq
    obtain rfl : L = [] := by simpa using hL
    cases he
    exact hq
  | cons p es ih =>
    intro L i r hL he Q hq
    cases L with
    | nil => simp at hL
    | cons e L =>
      simp only [List.map_cons, List.cons.injEq, Prod.mk.injEq] at hL
      obtain ⟨⟨e1, e2⟩, hL⟩ := hL
      obtain ⟨a, v⟩ := p
      have he' : (match eq? K.P K.O h 8 key k a with
        | .ok (.lit true) => .ok (some v)
        | .ok (.lit false) => findA? K.P K.O h key k es
        | .ok _ => .error "a maps key open"
        | .error e => .error e) = Except.ok r := he
      simp only [Instr.findAsking, wq_bind, e1]
      split at he'
      · rename_i hb
        cases he'
        refine wq_equal R hb ?_
        show wq K.P K.Ev E (if true = true then _ else _) Q w
        simp only [if_true, wq_pure, e2]
        exact hq i
      · rename_i hb
        refine wq_equal R hb ?_
        show wq K.P K.Ev E (if false = true then _ else _) Q w
        simp only [Bool.false_eq_true, if_false]
        exact ih hL he' hq
      · cases he'
      · cases he'

theorem wq_findKey (R : Rel K ρ h w) {E : Value → World → Prop} {key : TypeId} {k : AV} {es : List (AV × AV)} {L : List MapEntry} {r : Option AV} (hk : keyOk? K.P key = true) (hL : L.map (fun e => (e.key, e.val)) = es.map (fun p => (p.1.ev ρ, p.2.ev ρ)))
    (he : findA? K.P K.O h key k es = .ok r) {Q : Option (Nat × Value) → World → Prop} (hq : Found ρ w Q r) : wq K.P K.Ev E (Instr.findKey key (k.ev ρ) L) Q w := by
  unfold keyOk? at hk
  split at hk
  · rename_i e hu
    simp only [Instr.findKey, wq_bind, wq_underlying hu]
    cases L with
    | nil =>
      have : es = [] := by simpa using hL.symm
      subst this
      cases he
      exact hq
    | cons x L =>
      have : Instr.findNow (.pointer e) (k.ev ρ) (x :: L) 0 = none := by
        simp [Instr.findNow, Instr.sameNow]
      rw [this]
      exact wq_findAsking R hL he hq
  · cases hk

theorem wq_checkKey {E : Value → World → Prop} {key : TypeId} {k : Value} {b : Bool} (hk : keyOk? K.P key = true) {Q : Unit → World → Prop} (hq : Q () w) : wq K.P K.Ev E (Instr.checkKey b 10000 key k) Q w := by
  unfold keyOk? at hk
  split at hk
  · rename_i e hu
    unfold Instr.checkKey
    simp only [wq_bind, wq_underlying hu]
    cases k <;> exact hq
  · cases hk

theorem entries?_run (R : Rel K ρ h w) (G : K.Good) {x : AV} {es : List (AV × AV)} (he : entries? h x = .ok es) : (x = .map none ∧ es = []) ∨ ∃ i arr clk, x = .map (some (.dyn i)) ∧ findB i h.hp = some (.map es) ∧ w.heap[ρ.b i]? = some (.map arr clk) ∧ arr.toList.map (fun e => (e.key, e.val)) = es.map fun p => (p.1.ev ρ, p.2.ev ρ) := by
  unfold entries? at he
  split at he
  · cases he; exact .inl ⟨rfl, rfl⟩
  · rename_i i
    split at he
    · rename_i es' hb
      cases he
      obtain ⟨o, h1, h2⟩ := R.blk _ _ hb
      obtain ⟨arr, clk, rfl, h3⟩ := is_map h2
      exact .inr ⟨i, arr, clk, rfl, hb, h1, h3⟩
    · cases he
  · cases he

theorem wq_lookup (R : Rel K ρ h w) (G : K.Good) {E : Value → World → Prop} {t : TypeId} {x k v : AV} {ok : Bool} (he : lookup? K.P K.O h t x k ok = .ok v) {Q : Value → World → Prop} (hq : Q (v.ev ρ) w) : wq K.P K.Ev E (Instr.lookup t (x.ev ρ) (k.ev ρ) ok) Q w := by
  unfold lookup? at he
  split at he
  · rename_i key elem hu
    split at he
    · rename_i hk
      split at he
      · rename_i es hes
        have rest : ∀ {arr : Array MapEntry}, arr.toList.map (fun e => (e.key, e.val)) = es.map (fun p => (p.1.ev ρ, p.2.ev ρ)) →
            wq K.P K.Ev E (do
              Instr.checkKey arr.isEmpty 10000 key (k.ev ρ)
              let (v, b) ← match ← Instr.findKey key (k.ev ρ) arr.toList with
                | some (_, v) => pure (v, true)
                | none => pure (← zeroValue elem, false)
              pure (if ok then .tuple #[v, .bool b] else v)) Q w := by
          intro arr hL
          rw [wq_bind]
          refine wq_checkKey hk ?_
          rw [wq_bind]
          split at he
          · rename_i u hf
            cases he
            refine wq_findKey R hk hL hf ?_
            intro j
            simp only [wq_pure]
            cases ok <;> exact hq
          · rename_i hf
            split at he
            · rename_i z hz
              cases he
              refine wq_findKey R hk hL hf ?_
              show wq K.P K.Ev E (zeroValue elem >>= _) Q w
              rw [wq_bind, wq_zeroValue (ρ := ρ) hz]
              cases ok <;> exact hq
            · cases he
          · cases he
        rcases entries?_run R G hes with ⟨rfl, rfl⟩ | ⟨i, arr, clk, rfl, hb, hw, hL⟩
        · simp only [Instr.lookup, wq_bind, wq_underlying hu, AV.ev, Option.map_none, wq_pure]
          have := rest (arr := #[]) rfl
          simp only [wq_bind, wq_pure] at this
          exact this
        · simp only [Instr.lookup, wq_bind, wq_underlying hu, AV.ev, Option.map_some, BR.ev, wq_pure]
          refine wq_getObj hw (by intros; simp) (G.obj _ _ _ (R.own _ _ hb rfl)) ?_
          have := rest hL
          simp only [wq_bind, wq_pure] at this ⊢
          exact this
      · cases he
    · cases he
  · cases he

theorem findA?_in {P : Program} {O : Orc} {key : TypeId} {k v : AV} : ∀ {es : List (AV × AV)}, (∀ p ∈ es, p.1.In U ∧ p.2.In U) → findA? P O h key k es = .ok (some v) → v.In U := by
  intro es
  induction es with
  | nil => intro _ he; cases he
  | cons p es ih =>
    intro hi he
    obtain ⟨a, u⟩ := p
    have he' : (match eq? P O h 8 key k a with
        | .ok (.lit true) => .ok (some u)
        | .ok (.lit false) => findA? P O h key k es
        | .ok _ => .error "a maps key open"
        | .error e => .error e) = Except.ok (some v) := he
    split at he'
    · cases he'; exact (hi _ (List.mem_cons_self ..)).2
    · exact ih (fun p hp => hi p (List.mem_cons_of_mem _ hp)) he'
    · cases he'
    · cases he'

theorem lookup?_in (I : Ids K U h) {t : TypeId} {x k v : AV} {ok : Bool} (he : lookup? K.P K.O h t x k ok = .ok v) : v.In U := by
  have hb : ∀ {u : AV} {b : Bool}, u.In U → (if ok then AV.tuple [u, .bool (.lit b)] else u).In U := fun hu => by
    cases ok
    · exact hu
    · exact ⟨hu, trivial, trivial⟩
  unfold lookup? at he
  split at he
  · split at he
    · split at he
      · rename_i es hes
        split at he
        · rename_i u hf
          cases he
          refine hb (findA?_in (fun p hp => ?_) hf)
          unfold entries? at hes
          split at hes
          · cases hes; cases hp
          · split at hes
            · rename_i hbk
              cases hes
              exact I.hp _ _ hbk p hp
            · cases hes
          · cases hes
        · split at he
          · rename_i z hz
            cases he
            exact hb (zero?_in hz)
          · cases he
        · cases he
      · cases he
    · cases he
  · cases he

/-! ### A map's new entry -/
theorem Rel.setO (R : Rel K ρ h w) {i : Nat} {b b' : ABlk} {o' : Obj} (hb : findB i h.hp = some b) (ho : b'.is K.P ρ o') (hbc : b.isChan = false) (hl : ∀ n, b.isLent n = true → b'.isLent n = true) :
    Rel K ρ { h with hp := setB i b' h.hp } { w with heap := w.heap.setIfInBounds (ρ.b i) o' } ∧ Keeps K.own w { w with heap := w.heap.setIfInBounds (ρ.b i) o' } := by
  have hown := R.own _ _ hb hbc
  obtain ⟨o, h1, _⟩ := R.blk _ _ hb
  have hlt := heap_lt h1
  have hne : ∀ m, m ≠ ρ.b i → (w.heap.setIfInBounds (ρ.b i) o')[m]? = w.heap[m]? := fun m hm => Array.getElem?_setIfInBounds_ne (fun e => hm e.symm)
  refine ⟨⟨fun j c hj => ?_, fun j c hj => ?_, fun j k c d hj hk e => ?_, R.bs, R.is, fun p hp => ?_, fun m hm => R.room m (by simpa using hm), fun j c hj m hm => ?_, fun b m hm => by have := R.low b m hm; simpa using this⟩, ⟨fun m hm => hne m (fun e => hm (e ▸ hown)), by simp, rfl, rfl, rfl⟩⟩
  · rw [findB_setB] at hj
    split at hj
    · rename_i e; subst e
      rw [hb] at hj; cases hj
      exact ⟨o', by simp [hlt], ho⟩
    · rename_i e
      obtain ⟨o2, ha', hf'⟩ := R.blk _ _ hj
      refine ⟨o2, ?_, hf'⟩
      show (w.heap.setIfInBounds (ρ.b i) o')[_]? = _
      rw [hne _ (fun x => e (R.inj _ _ _ _ hj hb x)), ha']
  · rw [findB_setB] at hj
    split at hj
    · rename_i e; subst e; exact .inl hown
    · exact R.own' _ _ hj
  · rw [findB_setB] at hj hk
    split at hj <;> split at hk
    · rename_i e1 e2; exact e1.trans e2.symm
    · rename_i e1 e2; subst e1; exact R.inj _ _ _ _ hb hk e
    · rename_i e1 e2; subst e2; exact R.inj _ _ _ _ hj hb e
    · exact R.inj _ _ _ _ hj hk e
  · obtain ⟨m1, m2, m3⟩ := R.mem p hp
    refine ⟨m1, ?_, m3⟩
    simp only [World.cell?] at m2 ⊢
    rw [hne _ (fun x => m1 (by rw [x]; exact hown))]; exact m2
  · rw [findB_setB] at hj
    split at hj
    · rename_i e; subst e
      rw [hb] at hj; cases hj
      exact hl m (R.lent _ _ hb m hm)
    · exact R.lent _ _ hj m hm

theorem mapUpdate?_ids (I : Ids K U h) {t : TypeId} {x k v : AV} {h' : AH} (hk : k.In U) (hv : v.In U) (he : mapUpdate? K.P K.O h t x k v = .ok h') : Ids K U h' ∧ h'.nb = h.nb ∧ h'.lim = h.lim := by
  unfold mapUpdate? at he
  split at he
  · split at he
    · rename_i es hb
      split at he
      · split at he
        · cases he
          refine ⟨⟨fun j c hj => ?_, fun j hj => I.keys j (by rw [keys_setB] at hj; exact hj), by rw [keys_setB]; exact I.nodup, I.fresh, I.orc⟩, rfl, rfl⟩
          rw [findB_setB] at hj
          split at hj
          · rw [hb] at hj; cases hj
            intro p hp
            rcases List.mem_append.1 hp with hp | hp
            · exact I.hp _ _ hb p hp
            · obtain rfl := List.mem_singleton.1 hp
              exact ⟨hk, hv⟩
          · exact I.hp _ _ hj
        · cases he
        · cases he
      · cases he
    · cases he
  · cases he

theorem wq_mapUpdate (R : Rel K ρ h w) (G : K.Good) {E : Value → World → Prop} {t : TypeId} {x k v : AV} {h' : AH} (he : mapUpdate? K.P K.O h t x k v = .ok h') {Q : Unit → World → Prop} (hq : ∀ w', Rel K ρ h' w' → Keeps K.own w w' → Q () w') : wq K.P K.Ev E (Instr.mapUpdate t (x.ev ρ) (k.ev ρ) (v.ev ρ)) Q w := by
  unfold mapUpdate? at he
  split at he
  · rename_i key elem i hu
    split at he
    · rename_i es hb
      split at he
      · rename_i hk
        split at he
        · rename_i hf
          cases he
          obtain ⟨o, h1, h2⟩ := R.blk _ _ hb
          obtain ⟨arr, clk, rfl, h3⟩ := is_map h2
          have own := R.own _ _ hb rfl
          simp only [Instr.mapUpdate, wq_bind, wq_underlying hu, AV.ev, Option.map_some, BR.ev]
          refine wq_getObj h1 (by intros; simp) (G.obj _ _ _ own) ?_
          simp only [wq_bind]
          refine wq_checkKey hk ?_
          refine wq_findKey R hk h3 hf ?_
          refine wq_setObj h1 (by intros; simp) (G.obj _ _ _ own) ?_
          obtain ⟨r1, r2⟩ := R.setO hb (b' := .map (es ++ [(k, v)])) (o' := .map (arr.push { key := k.ev ρ, val := v.ev ρ, born := clk }) (clk + 1)) (.inr ⟨_, _, rfl, by simp [h3]⟩) rfl (fun n hn => by cases hn)
          exact hq _ r1 r2
        · cases he
        · cases he
      · cases he
    · cases he
  · cases he
end
end Go.Proofs.Ytcpiafgkmakdiaa.SX
