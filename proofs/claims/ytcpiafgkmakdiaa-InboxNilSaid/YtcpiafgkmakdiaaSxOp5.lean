/-
  The operations: conversions, assertions, aggregates, the small built-ins.
-/
import Derived.Test.YtcpiafgkmakdiaaSxOp4
set_option linter.unusedSectionVars false
set_option linter.unusedVariables false
set_option linter.unusedSimpArgs false
namespace Go.Proofs.Ytcpiafgkmakdiaa.SX
section
variable {K : Ctx} {ρ : Env} {h : AH} {w : World} {U : Nat → Prop}

theorem wq_convert (R : Rel K ρ h w) {E : Value → World → Prop} {src dst : TypeId} {x v : AV} (he : convert? K.P K.O h src dst x = .ok v) {Q : Value → World → Prop} (hq : Q (v.ev ρ) w) :
    wq K.P K.Ev E (convert src dst (x.ev ρ)) Q w := by
  unfold convert? at he
  simp only [bind_ok] at he
  obtain ⟨S, hS, D, hD, he⟩ := he
  have hS' := under?_ok hS
  have hD' := under?_ok hD
  unfold convert
  simp only [wq_bind, wq_underlying hS', wq_underlying hD']
  split at he
  · rename_i k k' e
    rw [pure_ok] at he; subst he
    simp only [AV.ev, int_ev R, IE.ev] at hq
    simp only [AV.ev, Conv.intToInt]
    exact hq
  · rw [pure_ok] at he; subst he
    cases S <;> exact hq
  · rename_i t i n
    split at he
    · rename_i b hb
      simp only [bind_ok] at he
      obtain ⟨s, hs, he⟩ := he
      split at he
      · rename_i hc
        rw [pure_ok] at he; subst he
        obtain ⟨arr, ha, hf⟩ := R.arr hb (isMem_lt hc.1)
        obtain ⟨u, hu⟩ : ∃ u, b.cs[n]? = some u := ⟨_, List.getElem?_eq_getElem hc.1⟩
        have hlt : n < arr.size := (Array.getElem?_eq_some_iff.1 (fits_get hf hu)).1
        simp only [AV.ev, Option.map_some, AA.ev, BR.ev, IE.ev] at hq ⊢
        have e0 : (Int.ofNat n).toNat = n := rfl
        rw [e0] at hq ⊢
        simp only [Conv.unsafePointer, wq_bind, wq_underlying hS', wq_underlying hD', Conv.seenAt]
        refine wq_viewAt_own ha ?_
        simp only [wq_pure, cellsIn, wq_bind, wq_shape, World.shape?, ha]
        simp only [wq_sizeOf hs]
        have h1 : (decide (s = 0) || (decide (n ≥ arr.size) && (none : Option Nat).isNone)) = false := by
          simp [hc.2, Nat.not_le.2 hlt]
        simp only [h1, Bool.false_eq_true, if_false]
        exact hq
      · cases he
    · cases he
  · cases he
theorem convert?_in (I : Ids K U h) {src dst : TypeId} {x v : AV} (he : convert? K.P K.O h src dst x = .ok v) (hx : x.In U) : v.In U := by
  unfold convert? at he
  simp only [bind_ok] at he
  obtain ⟨S, hS, D, hD, he⟩ := he
  split at he
  · rw [pure_ok] at he; subst he; exact int_in I hx
  · rw [pure_ok] at he; subst he; trivial
  · split at he
    · simp only [bind_ok] at he
      obtain ⟨s, hs, he⟩ := he
      split at he
      · rw [pure_ok] at he; subst he; exact hx
      · cases he
    · cases he
  · cases he

theorem wq_typeAssert {E : Value → World → Prop} {x v : AV} {xt asserted : TypeId} {ok : Bool} (he : typeAssert? K.P x asserted ok = .ok v) {Q : Value → World → Prop} (hq : Q (v.ev ρ) w) :
    wq K.P K.Ev E (Instr.typeAssert (x.ev ρ) xt asserted ok) Q w := by
  unfold typeAssert? at he
  simp only [bind_ok] at he
  obtain ⟨D, hD, he⟩ := he
  have hU := under?_ok hD
  have fails : ∀ {a b : Option TypeId} {m : String} {r : M AV}, r = (if ok then (do pure (.tuple [← zero? K.P asserted, .bool (.lit false)])) else .error "typeAssert fails") → r = .ok v →
      wq K.P K.Ev E (if ok then (do pure (.tuple #[← zeroValue asserted, .bool false])) else runtimePanic (.typeAssertion a b asserted m) : Sem Value) Q w := by
    intro a b m r e hr
    subst e
    split at hr
    · rename_i hok
      simp only [bind_ok, pure_ok] at hr
      obtain ⟨z, hz, rfl⟩ := hr
      simp only [if_pos hok, wq_bind, wq_zeroValue (ρ := ρ) hz, wq_pure]
      simpa [AV.ev, AV.evs, BE.ev] using hq
    · cases hr
  have holds : ∀ {u : AV} {r : M AV}, r = pure (if ok then .tuple [u, .bool (.lit true)] else u) → r = .ok v → Q (if ok then .tuple #[u.ev ρ, .bool true] else u.ev ρ) w := by
    intro u r e hr
    subst e
    rw [pure_ok] at hr; subst hr
    split at hq
    · rename_i hok; simpa [AV.ev, AV.evs, BE.ev, hok] using hq
    · rename_i hok; simpa [hok] using hq
  simp only [Instr.typeAssert, wq_bind, wq_underlying hU]
  split at he
  · simp only [AV.ev]; exact fails rfl he
  · rename_i want t u
    simp only [AV.ev]
    split at he
    · rename_i i hi
      simp only [wq_bind, wq_typeInfo hi]
      split at he
      · rename_i hm; rw [missing_none hm]; exact holds rfl he
      · rename_i hm
        obtain ⟨m, hm'⟩ := missing_some hm
        rw [hm']; exact fails rfl he
    · cases he
  · rename_i hni
    simp only [AV.ev]
    cases D <;> first | exact absurd rfl (hni _) | exact fails rfl he
  · rename_i t u hni
    simp only [AV.ev]
    split at he
    · rename_i ht
      cases D <;> first | exact absurd rfl (hni _) | (simp only [wq_ite]; rw [if_pos ht]; exact holds rfl he)
    · rename_i ht
      cases D <;> first | exact absurd rfl (hni _) | (simp only [if_neg ht]; exact fails rfl he)
  · cases he
theorem typeAssert?_in {P : Program} {x v : AV} {asserted : TypeId} {ok : Bool} (he : typeAssert? P x asserted ok = .ok v) (hx : x.In U) : v.In U := by
  unfold typeAssert? at he
  simp only [bind_ok] at he
  obtain ⟨D, hD, he⟩ := he
  have fails : ∀ {r : M AV}, r = (if ok then (do pure (.tuple [← zero? P asserted, .bool (.lit false)])) else .error "typeAssert fails") → r = .ok v → v.In U := by
    intro r e hr
    subst e
    split at hr
    · simp only [bind_ok, pure_ok] at hr
      obtain ⟨z, hz, rfl⟩ := hr
      exact ⟨zero?_in hz, trivial, trivial⟩
    · cases hr
  have holds : ∀ {u : AV} {r : M AV}, u.In U → r = pure (if ok then .tuple [u, .bool (.lit true)] else u) → r = .ok v → v.In U := by
    intro u r hu e hr
    subst e
    rw [pure_ok] at hr; subst hr
    split
    · exact ⟨hu, trivial, trivial⟩
    · exact hu
  split at he
  · exact fails rfl he
  · split at he
    · split at he
      · exact holds hx rfl he
      · exact fails rfl he
    · cases he
  · exact fails rfl he
  · split at he
    · refine holds ?_ rfl he
      exact hx
    · exact fails rfl he
  · cases he

/-! ### Aggregates -/
theorem setAt_length : ∀ (vs l : List AV) (off : Nat), (setAt l off vs).length = l.length
  | [], l, off => rfl
  | v :: vs, l, off => by simp [setAt, setAt_length vs]
theorem setAt_in {l vs : List AV} {off : Nat} (hl : AV.Ins U l) (hv : AV.Ins U vs) : AV.Ins U (setAt l off vs) := by
  induction vs generalizing l off with
  | nil => exact hl
  | cons v vs ih =>
    refine ih (Ins_iff.2 fun a ha => ?_) hv.2
    rcases List.mem_or_eq_of_mem_set ha with h' | rfl
    · exact Ins_iff.1 hl _ h'
    · exact hv.1

theorem foldl_set (ρ : Env) : ∀ (vs l : List AV) (off k : Nat), ((AV.evs ρ vs).zipIdx k).foldl (fun (cs : Array Value) (x : Value × Nat) => cs.setIfInBounds (off + x.2) x.1) (AV.evs ρ l).toArray = (AV.evs ρ (setAt l (off + k) vs)).toArray
  | [], l, off, k => rfl
  | v :: vs, l, off, k => by
    simp only [AV.evs, List.zipIdx_cons, List.foldl_cons, setAt]
    have : (AV.evs ρ l).toArray.setIfInBounds (off + k) (v.ev ρ) = (AV.evs ρ (l.set (off + k) v)).toArray := by
      rw [evs_set]; simp
    rw [this]
    exact foldl_set ρ vs (l.set (off + k) v) off (k + 1)

theorem fill?_sound {place : Nat → Option (Nat × Nat)} : ∀ {parts : List (Nat × AV)} {cells r : List AV}, fill? place cells parts = .ok r →
    Instr.fill place (AV.evs ρ cells).toArray (parts.map fun p => (p.1, p.2.ev ρ)) = some (AV.evs ρ r).toArray := by
  intro parts
  induction parts with
  | nil => intro cells r hf; simp [fill?] at hf; subst hf; rfl
  | cons p parts ih =>
    obtain ⟨i, v⟩ := p
    intro cells r hf
    simp only [fill?] at hf
    split at hf
    · cases hf
    · rename_i off size hp
      split at hf
      · rename_i cs hcs
        split at hf
        · rename_i hc
          simp only [List.map_cons, Instr.fill, hp]
          rw [cells?_ev hcs ρ]
          have e1 : (AV.evs ρ cs).toArray.size = size := by simp [evs_length, hc.1]
          have e2 : ¬ off + (AV.evs ρ cs).toArray.size > (AV.evs ρ cells).toArray.size := by simp [evs_length]; exact hc.2
          rw [if_neg (by simp only [Bool.or_eq_true, decide_eq_true_eq, not_or]; exact ⟨by simpa using e1, e2⟩)]
          have e3 : (AV.evs ρ cs).toArray.zipIdx.foldl (fun (cs : Array Value) (x : Value × Nat) => cs.setIfInBounds (off + x.2) x.1) (AV.evs ρ cells).toArray = (AV.evs ρ (setAt cells off cs)).toArray := by
            rw [← Array.foldl_toList, Array.toList_zipIdx]
            exact foldl_set ρ cs cells off 0
          rw [← ih hf]
          congr 1
        · cases hf
      · cases hf
theorem fill?_in {place : Nat → Option (Nat × Nat)} : ∀ {parts : List (Nat × AV)} {cells r : List AV}, fill? place cells parts = .ok r → AV.Ins U cells → (∀ p ∈ parts, p.2.In U) → AV.Ins U r := by
  intro parts
  induction parts with
  | nil => intro cells r hf hc _; simp [fill?] at hf; subst hf; exact hc
  | cons p parts ih =>
    obtain ⟨i, v⟩ := p
    intro cells r hf hc hp
    simp only [fill?] at hf
    split at hf
    · cases hf
    · split at hf
      · rename_i cs hcs
        split at hf
        · exact ih hf (setAt_in hc (cells?_in hcs (hp (i, v) (by simp)))) fun p hp' => hp p (List.mem_cons_of_mem _ hp')
        · cases hf
      · cases hf

theorem mapM_sizes {P : Program} {Ev : Event → Prop} {E : Value → World → Prop} : ∀ {fs : List Field} {places : List (Nat × Nat)}, (fs.mapM fun f => (do pure (f.offset, ← sizeOf? P f.type) : M (Nat × Nat))) = .ok places →
    ∀ {Q : List (Nat × Nat) → World → Prop} {w : World}, Q places w → wq P Ev E (fs.mapM fun f => (do pure (f.offset, ← sizeOf f.type) : Sem (Nat × Nat))) Q w := by
  intro fs
  induction fs with
  | nil => intro places hm Q w hq; simp [pure_ok] at hm; subst hm; simpa using hq
  | cons f fs ih =>
    intro places hm Q w hq
    simp only [List.mapM_cons, bind_ok, pure_ok] at hm
    obtain ⟨p, ⟨n, hn, rfl⟩, l, hl, rfl⟩ := hm
    simp only [List.mapM_cons, wq_bind, wq_sizeOf hn, wq_pure]
    exact ih hl (by simpa using hq)

theorem wq_build {E : Value → World → Prop} {t : TypeId} {parts : List (Nat × AV)} {v : AV} (he : build? K.P t parts = .ok v) {Q : Value → World → Prop} (hq : Q (v.ev ρ) w) :
    wq K.P K.Ev E (Instr.build t (parts.map fun p => (p.1, p.2.ev ρ)).toArray) Q w := by
  unfold build? at he
  simp only [bind_ok] at he
  obtain ⟨z, hz, cs, hcs, D, hD, he⟩ := he
  have hc := cells?_ev hcs ρ
  simp only [Instr.build, wq_bind, wq_zeroValue (ρ := ρ) hz, wq_underlying (under?_ok hD), hc]
  split at he
  · rename_i fs
    simp only [bind_ok, pure_ok] at he
    obtain ⟨places, hp, r, hr, rfl⟩ := he
    have : (fs.mapM fun f => (do pure (f.offset, ← sizeOf f.type) : Sem (Nat × Nat))) = List.toArray <$> (fs.toList.mapM fun f => (do pure (f.offset, ← sizeOf f.type) : Sem (Nat × Nat))) := by
      rw [Array.mapM_eq_mapM_toList]
    simp only [wq_bind]
    rw [this, wq_map]
    refine mapM_sizes hp ?_
    have e := fill?_sound (ρ := ρ) hr
    have : (places.toArray[·]? : Nat → Option (Nat × Nat)) = (places[·]?) := by funext i; simp
    simp only [this, List.toList_toArray]
    rw [e]
    exact hq
  · rename_i n elem
    simp only [bind_ok, pure_ok] at he
    obtain ⟨s, hs, r, hr, rfl⟩ := he
    simp only [wq_bind, wq_sizeOf hs]
    have e := fill?_sound (ρ := ρ) hr
    rw [e]
    exact hq
  · cases he
theorem build?_in {P : Program} {t : TypeId} {parts : List (Nat × AV)} {v : AV} (he : build? P t parts = .ok v) (hp : ∀ p ∈ parts, p.2.In U) : v.In U := by
  unfold build? at he
  simp only [bind_ok] at he
  obtain ⟨z, hz, cs, hcs, D, hD, he⟩ := he
  have hc : AV.Ins U cs := cells?_in hcs (zero?_in hz)
  split at he
  · simp only [bind_ok, pure_ok] at he
    obtain ⟨places, _, r, hr, rfl⟩ := he
    exact fill?_in hr hc hp
  · simp only [bind_ok, pure_ok] at he
    obtain ⟨s, hs, r, hr, rfl⟩ := he
    exact fill?_in hr hc hp
  · cases he

end
end Go.Proofs.Ytcpiafgkmakdiaa.SX
