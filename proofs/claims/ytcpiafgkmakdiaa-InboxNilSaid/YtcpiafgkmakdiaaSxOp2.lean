/-
  The operations: comparisons, sums.
-/
import Derived.Test.YtcpiafgkmakdiaaSxOp1
set_option linter.unusedSectionVars false
set_option linter.unusedVariables false
set_option linter.unusedSimpArgs false
namespace Go.Proofs.Ytcpiafgkmakdiaa.SX
section
variable {K : Ctx} {ρ : Env} {h : AH} {w : World} {U : Nat → Prop}

theorem wq_viewAt_own {E : Value → World → Prop} {n : Nat} {arr : Array Value} {e : TypeId} {f : Nat × Nat} (hn : w.heap[n]? = some (.cells arr e f)) {Q : Option (Addr × TypeId) → World → Prop} (hq : Q none w) : wq K.P K.Ev E (viewAt n) Q w := by
  simp only [viewAt, wq_bind, wq_shape]
  have : (w.shape? n).isSome = true := by simp [World.shape?, hn]
  rw [if_pos this]; exact hq

theorem wq_noView_own {E : Value → World → Prop} {a : Addr} {arr : Array Value} {e : TypeId} {f : Nat × Nat} (hn : w.heap[a.block]? = some (.cells arr e f)) {Q : Unit → World → Prop} (hq : Q () w) : wq K.P K.Ev E (noView a) Q w := by
  simp only [noView, wq_bind]
  exact wq_viewAt_own hn (by simpa using hq)

theorem wq_stringish_own {E : Value → World → Prop} {b o : Nat} {arr : Array Value} {e : TypeId} (hn : w.heap[b]? = some (.cells arr e (0, 0))) {Q : Bool → World → Prop} (hq : Q false w) : wq K.P K.Ev E (stringish ⟨b, o, none⟩) Q w := by
  simp only [stringish, wq_bind, wq_frozen, frozen?_of hn]
  simp only [Bool.false_eq_true, if_false, wq_bind, wq_shape, World.shape?, hn]
  have : w.frozen? ⟨b, arr.size, none⟩ = false := frozen?_of hn
  simp only [wq_frozen, this]
  exact hq

/-- Two places in blocks of the call's own. -/
theorem wq_sameAddr (R : Rel K ρ h w) {E : Value → World → Prop} {i j m n : Nat} {b c : ABlk} (hb : findB i h.hp = some b) (hc : findB j h.hp = some c) (mb : b.isMem = true) (mc : c.isMem = true) (hne : i ≠ j) {Q : Bool → World → Prop} (hq : Q false w) :
    wq K.P K.Ev E (sameAddr ⟨ρ.b i, m, none⟩ ⟨ρ.b j, n, none⟩) Q w := by
  obtain ⟨a1, h1, _⟩ := R.arr hb mb
  obtain ⟨a2, h2, _⟩ := R.arr hc mc
  have hne' : ¬ ρ.b i = ρ.b j := fun e => hne (R.inj i j b c hb hc e)
  have hbeq : (ρ.b i == ρ.b j) = false := by simpa using hne'
  simp only [sameAddr, wq_bind, wq_ite]
  rw [if_neg (by simp [hne'])]
  simp only [wq_frozen, wq_bind, frozen?_of h1, wq_pure]
  simp only [wq_frozen, frozen?_of h2, Bool.false_and, Bool.false_eq_true, if_false, wq_bind, wq_pure]
  refine wq_noView_own h1 ?_
  refine wq_noView_own h2 ?_
  simp only [mayBeOne, wq_bind]
  refine wq_stringish_own h1 ?_
  refine wq_stringish_own h2 ?_
  simp only [Bool.false_and, Bool.or_false, wq_bind, wq_pure, Bool.false_eq_true, if_false]
  exact hq

theorem wq_sameAddr_eq {E : Value → World → Prop} {b m n : Nat} {Q : Bool → World → Prop} (hq : Q (m == n) w) : wq K.P K.Ev E (sameAddr ⟨b, m, none⟩ ⟨b, n, none⟩) Q w := by
  simp only [sameAddr, wq_ite, wq_bind]
  rw [if_pos (by simp)]
  have : ((⟨b, m, none⟩ : Addr) == ⟨b, n, none⟩) = (m == n) := by
    by_cases e : m = n
    · subst e; simp
    · have h1 : (m == n) = false := by simpa using e
      rw [h1]
      rw [beq_eq_false_iff_ne]
      intro x; cases x; exact e rfl
  simp only [wq_pure]
  rw [this]; exact hq

theorem eqAll?_in {P : Program} {eq : TypeId → AV → AV → M BE} (hi : ∀ t x y b, eq t x y = .ok b → x.In U → y.In U → b.In U) {xs ys : List AV} (hx : AV.Ins U xs) (hy : AV.Ins U ys) : ∀ {l : List Field} {b : BE}, eqAll? P eq xs ys l = .ok b → b.In U := by
  intro l
  induction l with
  | nil => intro b he; cases he; trivial
  | cons f l ih =>
    intro b he
    unfold eqAll? at he
    split at he
    · cases he
    · rw [bind_ok] at he
      obtain ⟨a, ha, he⟩ := he
      rw [bind_ok] at he
      obtain ⟨c, hc, he⟩ := he
      rw [bind_ok] at he
      obtain ⟨r, hr, he⟩ := he
      have := hi _ _ _ _ hr (part?_in ha hx) (part?_in hc hy)
      split at he
      · exact ih he
      · cases he; trivial
      · split at he
        · cases he; exact this
        · cases he

theorem eq?_in : ∀ {d : Nat} {t : TypeId} {x y : AV} {b : BE}, eq? K.P K.O h d t x y = .ok b → x.In U → y.In U → b.In U := by
  intro d
  induction d with
  | zero => intro t x y b he; simp [eq?] at he
  | succ d ih =>
    intro t x y b he hx hy
    simp only [eq?] at he
    rw [bind_ok] at he
    obtain ⟨D, hD, he⟩ := he
    split at he
    · split at he <;> first | (rw [pure_ok] at he; subst he; trivial) | cases he
    · split at he
      · rw [pure_ok] at he; subst he; exact bool_in ⟨hx, hy⟩
      · cases he
    · rw [pure_ok] at he; subst he; trivial
    · rw [pure_ok] at he; subst he; trivial
    · rw [pure_ok] at he; subst he; trivial
    · rw [bind_ok] at he
      obtain ⟨s, hs, he⟩ := he
      split at he
      · cases he
      · split at he
        · split at he
          · rw [pure_ok] at he; subst he; trivial
          · split at he
            · split at he <;> first | (rw [pure_ok] at he; subst he; trivial) | cases he
            · cases he
        · split at he <;> first | (rw [pure_ok] at he; subst he; trivial) | cases he
        · cases he
    · rw [pure_ok] at he; subst he; trivial
    · rw [pure_ok] at he; subst he; trivial
    · rw [pure_ok] at he; subst he; trivial
    · split at he
      · split at he
        · split at he
          · exact ih he hx hy
          · cases he
        · cases he
      · rw [pure_ok] at he; subst he; trivial
    rotate_right 2
    · split at he
      · cases he
      · exact eqAll?_in (fun _ _ _ _ h1 h2 h3 => ih h1 h2 h3) hx hy he
    · cases he
    all_goals first
      | (rw [pure_ok] at he; subst he; trivial)
      | cases he

theorem wq_eqAll {E : Value → World → Prop} {D : Nat} {eq : TypeId → AV → AV → M BE} (hi : ∀ {t x y b}, eq t x y = .ok b → ∀ {Q : Bool → World → Prop}, Q (b.ev ρ) w → wq K.P K.Ev E (Op.equalIn D t (x.ev ρ) (y.ev ρ)) Q w) {xs ys : List AV} :
    ∀ {l : List Field} {b : BE}, eqAll? K.P eq xs ys l = .ok b → ∀ {Q : Option Bool × Unit → World → Prop}, Q (if b.ev ρ = true then (none, ()) else (some false, ())) w → wq K.P K.Ev E (forIn l ((none, ()) : Option Bool × Unit) fun f _ =>
                if f.name ≠ "_" then do
                  let a ← part f.type (AV.evs ρ xs).toArray f.offset
                  let b ← part f.type (AV.evs ρ ys).toArray f.offset
                  let c ← Op.equalIn D f.type a b
                  if (!c) = true then pure (ForInStep.done (some false, ())) else pure (ForInStep.yield (none, ()))
                else pure (ForInStep.yield (none, ()))) Q w := by
  intro l
  induction l with
  | nil =>
    intro b he Q hq
    cases he
    simp only [List.forIn_nil, wq_pure]
    exact hq
  | cons f l ih =>
    intro b he Q hq
    unfold eqAll? at he
    split at he
    · cases he
    · rename_i hn
      rw [bind_ok] at he
      obtain ⟨a, ha, he⟩ := he
      rw [bind_ok] at he
      obtain ⟨c, hc, he⟩ := he
      rw [bind_ok] at he
      obtain ⟨r, hr, he⟩ := he
      simp only [List.forIn_cons, wq_bind]
      rw [if_pos hn]
      simp only [wq_bind]
      refine wq_part ha (wq_part hc (hi hr ?_))
      split at he
      · simp only [BE.ev, Bool.not_true, Bool.false_eq_true, if_false, wq_pure]
        exact ih he hq
      · cases he
        simp only [BE.ev, Bool.not_false, if_true, wq_pure] at hq ⊢
        exact hq
      · split at he
        · have e := Except.ok.inj he
          rw [e]
          by_cases hb : b.ev ρ = true
          · rw [if_pos hb] at hq
            simp only [hb, Bool.not_true, Bool.false_eq_true, if_false, wq_pure, List.forIn_nil]
            exact hq
          · rw [if_neg hb] at hq
            have hb' : b.ev ρ = false := by simpa using hb
            simp only [hb', Bool.not_false, if_true, wq_pure]
            exact hq
        · cases he

theorem wq_equalIn (R : Rel K ρ h w) {E : Value → World → Prop} : ∀ {d D : Nat} {t : TypeId} {x y : AV} {b : BE}, d ≤ D → eq? K.P K.O h d t x y = .ok b → ∀ {Q : Bool → World → Prop}, Q (b.ev ρ) w →
    wq K.P K.Ev E (Op.equalIn D t (x.ev ρ) (y.ev ρ)) Q w := by
  intro d
  induction d with
  | zero => intro D t x y b _ he; simp [eq?] at he
  | succ d ih =>
    intro D t x y b hD he Q hq
    obtain ⟨D, rfl⟩ : ∃ D', D = D' + 1 := ⟨D - 1, by omega⟩
    simp only [eq?] at he
    rw [bind_ok] at he
    obtain ⟨T, hT, he⟩ := he
    have hU := under?_ok hT
    simp only [Op.equalIn, wq_bind, wq_underlying hU]
    split at he
    · -- bool
      rename_i a b'
      simp only [AV.ev]
      split at he
      · rename_i t1 t2 e1 e2
        rw [pure_ok] at he; subst he
        rw [wq_pure, bool_lit R e1, bool_lit R e2]; exact hq
      · cases he
    · -- int
      simp only [AV.ev]
      split at he
      · rename_i hk
        rw [pure_ok] at he; subst he
        rw [bool_ev R] at hq
        simp only [wq_ite, if_pos hk, wq_pure]
        exact hq
      · cases he
    · simp only [AV.ev]; rw [pure_ok] at he; subst he; rw [wq_pure]; exact hq
    · rw [pure_ok] at he; subst he
      rename_i b'
      cases b' <;> simpa [AV.ev, BE.ev] using hq
    · rw [pure_ok] at he; subst he; simpa [AV.ev, BE.ev] using hq
    · -- pointers
      rename_i e a b'
      rw [bind_ok] at he
      obtain ⟨s, hs, he⟩ := he
      split at he
      · cases he
      · rename_i hs0
        simp only [AV.ev, Option.map_some, wq_bind, wq_sizeOf hs]
        rw [if_pos hs0]
        split at he
        · rename_i i m j n h1 h2 h3 h4
          have ea : a.ev ρ = ⟨ρ.b i, m, none⟩ := by simp [AA.ev, h1, h2, BR.ev, IE.ev]
          have eb : b'.ev ρ = ⟨ρ.b j, n, none⟩ := by simp [AA.ev, h3, h4, BR.ev, IE.ev]
          rw [ea, eb]
          split at he
          · rename_i hij
            rw [pure_ok] at he; subst he
            have : i = j := by simpa using hij
            subst this
            exact wq_sameAddr_eq hq
          · rename_i hij
            have hne : i ≠ j := by simpa using hij
            split at he
            · rename_i hb hc
              split at he
              · rename_i hm
                rw [Bool.and_eq_true] at hm
                rw [pure_ok] at he; subst he
                exact wq_sameAddr R hb hc hm.1 hm.2 hne hq
              · cases he
            · cases he
        · rename_i i m j n h1 h2 h3 h4
          have ea : a.ev ρ = ⟨i, m, none⟩ := by simp [AA.ev, h1, h2, BR.ev, IE.ev]
          have eb : b'.ev ρ = ⟨j, n, none⟩ := by simp [AA.ev, h3, h4, BR.ev, IE.ev]
          rw [ea, eb]
          split at he
          · rename_i hij
            rw [pure_ok] at he; subst he
            have : i = j := by simpa using hij
            subst this
            exact wq_sameAddr_eq hq
          · cases he
        · cases he
    · rw [pure_ok] at he; subst he; simpa [AV.ev, BE.ev] using hq
    · rw [pure_ok] at he; subst he; simpa [AV.ev, BE.ev] using hq
    · rw [pure_ok] at he; subst he; simpa [AV.ev, BE.ev] using hq
    · -- two interface values
      rename_i tx vx ty vy
      simp only [AV.ev]
      split at he
      · rename_i htt
        have : tx = ty := by simpa using htt
        subst this
        split at he
        · rename_i i hi
          split at he
          · rename_i hcmp
            simp only [wq_ite, wq_bind, wq_typeInfo hi]
            rw [if_neg (by simp), if_neg (by simp [hcmp])]
            exact ih (by omega) he hq
          · cases he
        · cases he
      · rename_i htt
        have : tx ≠ ty := by simpa using htt
        rw [pure_ok] at he; subst he
        simp only [wq_ite]
        rw [if_pos this]; exact hq
    · rw [pure_ok] at he; subst he
      rename_i b' _ _ 
      cases b' <;> simpa [AV.ev, BE.ev] using hq
    · rw [pure_ok] at he; subst he; simpa [AV.ev, BE.ev] using hq
    · rw [pure_ok] at he; subst he
      rename_i b'
      cases b' <;> simpa [AV.ev, BE.ev] using hq
    · rw [pure_ok] at he; subst he; simpa [AV.ev, BE.ev] using hq
    · rw [pure_ok] at he; subst he; simpa [AV.ev, BE.ev] using hq
    · rw [pure_ok] at he; subst he; simpa [AV.ev, BE.ev] using hq
    · rw [pure_ok] at he; subst he; simpa [AV.ev, BE.ev] using hq
    · rw [pure_ok] at he; subst he
      rename_i b'
      cases b' <;> simpa [AV.ev, BE.ev] using hq
    · rw [pure_ok] at he; subst he; simpa [AV.ev, BE.ev] using hq
    · rename_i fs xs ys
      split at he
      · cases he
      · rename_i hst
        simp only [AV.ev, wq_bind, wq_program]
        rw [if_neg hst]
        simp only [wq_bind]
        rw [← Array.forIn_toList]
        refine wq_eqAll (fun h1 _ h2 => ih (by omega) h1 h2) he ?_
        by_cases hb : b.ev ρ = true
        · rw [if_pos hb]; rw [hb] at hq; exact hq
        · rw [if_neg hb]; rw [show b.ev ρ = false by simpa using hb] at hq; exact hq
    · cases he

theorem wq_equal (R : Rel K ρ h w) {E : Value → World → Prop} {t : TypeId} {x y : AV} {b : BE} (he : eq? K.P K.O h 8 t x y = .ok b) {Q : Bool → World → Prop} (hq : Q (b.ev ρ) w) :
    wq K.P K.Ev E (Op.equal t (x.ev ρ) (y.ev ρ)) Q w := wq_equalIn R (by unfold Op.maxDepth; omega) he hq

theorem notB_ev {b c : BE} (hn : notB b = .ok c) (ρ : Env) : c.ev ρ = !b.ev ρ := by
  cases b with
  | lit t => simp [notB] at hn; subst hn; rfl
  | var i => simp [notB] at hn
  | cmp o a b =>
    cases o <;> simp [notB] at hn <;> subst hn <;> simp only [BE.ev, icmp]
    · simp [bne]
    · simp [bne]
    · simp [decide_not.symm, Int.not_lt]
    · simp [decide_not.symm, Int.not_le]
    · simp [decide_not.symm, Int.not_lt]
    · simp [decide_not.symm, Int.not_le]
theorem notB_in {b c : BE} (hn : notB b = .ok c) (hi : b.In U) : c.In U := by
  cases b with
  | lit t => simp [notB] at hn; subst hn; trivial
  | var i => simp [notB] at hn
  | cmp o a b => cases o <;> simp [notB] at hn <;> subst hn <;> exact hi

end
end Go.Proofs.Ytcpiafgkmakdiaa.SX
