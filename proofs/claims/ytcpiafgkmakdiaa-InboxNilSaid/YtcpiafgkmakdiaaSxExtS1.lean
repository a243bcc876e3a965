/-
  The entries that look at memory, sound: atomics, marks.
-/
import Derived.Test.YtcpiafgkmakdiaaSxOp10
import Derived.Test.YtcpiafgkmakdiaaSxExt
set_option linter.unusedSectionVars false
set_option linter.unusedVariables false
set_option linter.unusedSimpArgs false
namespace Go.Proofs.Ytcpiafgkmakdiaa.SX

def XE.sem : XE → (Array Value → Sem Value) → Prop
  | .ld k, e => e = Extern.Atomic.loadT (.int k)
  | .st, e => e = Extern.Atomic.storeT
  | .sw k, e => e = Extern.Atomic.swapT (.int k)
  | .cas k, e => e = Extern.Atomic.casT (.int k)
  | .add k, e => e = Extern.Atomic.update (Op.intArith .add) k true
  | .acquire, e => e = Extern.Race.marked .acquire
  | .release, e => e = Extern.Race.marked .release
  | .releaseMerge, e => e = Extern.Race.marked .releaseMerge
  | .quiet, e => ∃ m, e = fun _ => do mark m; pure Extern.Race.none_
  | .typeOf, e => e = Extern.ReflectliteType.typeOf
  | .valueOf, e => e = fun args => Extern.ReflectliteValue.unpack (args.getD 0 (.tuple #[]))
  | .vType, e => ∃ z, e = Extern.ReflectliteValue.methodAny z fun t _ _ _ => Extern.ReflectliteType.toType t
  | .vIsNil, e => ∃ z, e = Extern.ReflectliteValue.method z Extern.ReflectliteValue.isNil
  | .vElem, e => ∃ z, e = Extern.ReflectliteValue.method z Extern.ReflectliteValue.elem
  | .vSet, e => e = Extern.ReflectliteValue.set

section
variable {K : Ctx} {ρ : Env} {h : AH} {w : World} {U : Nat → Prop}

theorem ldInt_ok (R : Rel K ρ h w) (G : K.Good) {a : AA} {k : IntKind} {e : IE} (hl : ldInt K.O h a k = .ok e) : w.cell? (a.ev ρ) = some (.int k (e.ev ρ)) ∧ (∀ s, K.Ev ⟨.cell (a.ev ρ), false, s⟩) ∧ ∀ {U}, Ids K U h → e.In U := by
  unfold ldInt at hl
  rw [bind_ok] at hl
  obtain ⟨v, hv, hl⟩ := hl
  obtain ⟨h1, h2⟩ := load1_sound R G hv
  split at hl
  · split at hl
    · rename_i hk
      cases hl
      subst hk
      exact ⟨h1, h2, fun I => load1_in I hv⟩
    · cases hl
  · cases hl

theorem wq_read {E : Value → World → Prop} {a : Addr} {k : IntKind} {n : Int} (hc : w.cell? a = some (.int k n)) (he : ∀ s, K.Ev ⟨.cell a, false, s⟩) {Q : Value → World → Prop} (hq : Q (.int k n) w) : wq K.P K.Ev E (Extern.Atomic.read (.int k) a) Q w := by
  unfold Extern.Atomic.read
  simp only [wq_bind, wq_load]
  refine ⟨_, hc, he _, ?_⟩
  simp only [if_true, wq_pure]
  exact hq

theorem wq_swrite {E : Value → World → Prop} {a : AA} {v : AV} {h' : AH} (R : Rel K ρ h w) (G : K.Good) (hs : store1 h a v = .ok h') {Q : Unit → World → Prop} (hq : Q () (w.setCell (a.ev ρ) (v.ev ρ))) : wq K.P K.Ev E (store (a.ev ρ) (v.ev ρ) .atomic) Q w := by
  obtain ⟨s1, s2, s3, s4, _⟩ := store1_sound R G hs
  rw [wq_store]
  exact ⟨s1, s2, s3, s4 _, hq⟩

theorem store1_grows (I : Ids K U h) {a : AA} {v : AV} {h' : AH} (hs : store1 h a v = .ok h') (hv : v.In U) (hn : h'.nb = h.nb) (hl : h'.lim = h.lim) : Grows K U h h' :=
  ⟨by rw [hn]; exact Nat.le_refl _, hl, by rw [hn]; exact (store1_ids I hs hv).congr (fun n => ⟨.inl, plus_none n⟩)⟩

theorem after_store (R : Rel K ρ h w) (G : K.Good) {a : AA} {v : AV} {h' : AH} (hs : store1 h a v = .ok h') {Q : Env → Prop} (hq : Q ρ) : After K U ρ w h' Q (w.setCell (a.ev ρ) (v.ev ρ)) := by
  obtain ⟨_, _, _, _, s5, s6, _⟩ := store1_sound R G hs
  exact ⟨ρ, Agree.refl _ _, s5, s6, hq⟩

theorem ld_ok (G : K.Good) (R : Rel K ρ h w) (I : Ids K U h) {a : AA} {k : IntKind} {e : IE} (hl : ldInt K.O h a k = .ok e) : HOk K U ρ h w (Extern.Atomic.loadT (.int k) (AV.evs ρ [.ptr (some a)]).toArray) (.int k e) h := by
  obtain ⟨h1, h2, h3⟩ := ldInt_ok R G hl
  refine HOk.pure R I (h3 I) fun {E Q} hq => ?_
  show wq K.P K.Ev E (do Extern.Atomic.read (.int k) (← asAddr (.pointer (some (a.ev ρ))))) Q w
  simp only [wq_bind, asAddr, wq_pure]
  exact wq_read h1 h2 hq

theorem st_ok (G : K.Good) (R : Rel K ρ h w) (I : Ids K U h) {a : AA} {v : AV} {h' : AH} (hv : v.In U) (hs : store1 h a v = .ok h') : HOk K U ρ h w (Extern.Atomic.storeT (AV.evs ρ [.ptr (some a), v]).toArray) undefA h' := by
  obtain ⟨_, _, _, _, _, _, hn, hl⟩ := store1_sound R G hs
  refine ⟨by simp [undefA, AV.In, AV.Ins], store1_grows I hs hv hn hl, fun {E Q} hq => ?_⟩
  show wq K.P K.Ev E (do store (← asAddr (.pointer (some (a.ev ρ)))) (v.ev ρ) .atomic; pure Extern.Atomic.none_) Q w
  simp only [wq_bind, asAddr, wq_pure]
  exact wq_swrite R G hs (hq _ _ (after_store R G hs rfl))

theorem sw_ok (G : K.Good) (R : Rel K ρ h w) (I : Ids K U h) {a : AA} {v : AV} {k : IntKind} {e : IE} {h' : AH} (hv : v.In U) (hl : ldInt K.O h a k = .ok e) (hs : store1 h a v = .ok h') :
    HOk K U ρ h w (Extern.Atomic.swapT (.int k) (AV.evs ρ [.ptr (some a), v]).toArray) (.int k e) h' := by
  obtain ⟨h1, h2, h3⟩ := ldInt_ok R G hl
  obtain ⟨_, _, _, _, _, _, hn, hl'⟩ := store1_sound R G hs
  refine ⟨IE.In.mono plus_sub (h3 I), store1_grows I hs hv hn hl', fun {E Q} hq => ?_⟩
  show wq K.P K.Ev E (do let a ← asAddr (.pointer (some (a.ev ρ))); let old ← Extern.Atomic.read (.int k) a; store a (v.ev ρ) .atomic; pure old) Q w
  simp only [wq_bind, asAddr, wq_pure]
  refine wq_read h1 h2 ?_
  exact wq_swrite R G hs (hq _ _ (after_store R G hs rfl))

theorem add_ok (G : K.Good) (R : Rel K ρ h w) (I : Ids K U h) {a : AA} {k k' : IntKind} {e d : IE} {h' : AH} (hd : d.In U) (hl : ldInt K.O h a k = .ok e) (hs : store1 h a (.int k (K.O.int (.op .add k e d))) = .ok h')
    (hin : (K.O.int (.op .add k e d)).In U) :
    HOk K U ρ h w (Extern.Atomic.update (Op.intArith .add) k true (AV.evs ρ [.ptr (some a), .int k' d]).toArray) (.int k (K.O.int (.op .add k e d))) h' := by
  obtain ⟨h1, h2, h3⟩ := ldInt_ok R G hl
  obtain ⟨_, _, _, _, _, _, hn, hl'⟩ := store1_sound R G hs
  refine ⟨IE.In.mono plus_sub hin, store1_grows I hs hin hn hl', fun {E Q} hq => ?_⟩
  show wq K.P K.Ev E (do
    let a ← asAddr (.pointer (some (a.ev ρ)))
    let old ← Extern.Atomic.read (.int k) a
    let new ← Op.intArith .add k (← asInt old) (← asInt (.int k' (d.ev ρ)))
    store a new .atomic
    pure (if true then new else old)) Q w
  simp only [wq_bind, asAddr, wq_pure]
  refine wq_read h1 h2 ?_
  simp only [asInt, asIntOf, wq_pure, wq_bind]
  have hx : Op.intArith .add k (e.ev ρ) (d.ev ρ) = (pure ((AV.int k (K.O.int (.op .add k e d))).ev ρ) : Sem Value) := by
    simp only [AV.ev, int_ev R, IE.ev, iop]; rfl
  rw [hx]
  simp only [wq_pure, if_true]
  exact wq_swrite R G hs (hq _ _ (after_store R G hs rfl))

theorem store1_at {a : AA} {v : AV} {h' : AH} (hs : store1 h a v = .ok h') : ∃ i n b, a = ⟨.dyn i, .lit (.ofNat n)⟩ ∧ findB i h.hp = some b ∧ b.isMem = true := by
  obtain ⟨blk, off⟩ := a
  unfold store1 at hs
  dsimp only at hs
  split at hs
  · rename_i i n
    split at hs
    · rename_i b hb
      split at hs
      · rename_i hc
        simp only [Bool.and_eq_true, decide_eq_true_eq] at hc
        exact ⟨i, n, b, rfl, hb, isMem_lt hc.1.1⟩
      · cases hs
    · cases hs
  · cases hs

theorem cas_ok (G : K.Good) (R : Rel K ρ h w) (I : Ids K U h) {a : AA} {v : AV} {k k' : IntKind} {e old : IE} {h' : AH} {b : Bool} (hv : v.In U) (hl : ldInt K.O h a k = .ok e) (hb : K.O.dec (.cmp .eql e old) = .ok b) (hs : store1 h a v = .ok h') :
    HOk K U ρ h w (Extern.Atomic.casT (.int k) (AV.evs ρ [.ptr (some a), .int k' old, v]).toArray) (.bool (.lit b)) (if b then h' else h) := by
  obtain ⟨h1, h2, h3⟩ := ldInt_ok R G hl
  obtain ⟨_, _, hfz, _, _, _, hn, hl'⟩ := store1_sound R G hs
  obtain ⟨i, n, blk, rfl, hblk, hmem⟩ := store1_at hs
  obtain ⟨arr, harr, _⟩ := R.arr hblk hmem
  have hd := dec_ev R hb
  refine ⟨trivial, ?_, fun {E Q} hq => ?_⟩
  · cases b
    · exact Grows.refl I
    · exact store1_grows I hs hv hn hl'
  · have hsh : (w.shape? (AA.ev ρ ⟨.dyn i, .lit (.ofNat n)⟩).block) = some (blk.elem, arr.size) := by
      show w.shape? (ρ.b i) = _
      simp [World.shape?, harr]
    have hcmp : (e.ev ρ == old.ev ρ) = b := by simpa [BE.ev, icmp] using hd
    show wq K.P K.Ev E (asAddr (.pointer (some (AA.ev ρ ⟨.dyn i, .lit (.ofNat n)⟩))) >>= _) Q w
    refine (wq_bind _ _).2 ?_
    show wq K.P K.Ev E (Extern.Atomic.touchesFrozen (AA.ev ρ ⟨.dyn i, .lit (.ofNat n)⟩) >>= _) Q w
    refine (wq_bind _ _).2 ?_
    simp only [wq_bind, wq_pure, Extern.Atomic.touchesFrozen, viewAt, wq_shape, hsh, Option.isSome_some, if_true, wq_frozen, hfz]
    show wq K.P K.Ev E (Extern.Atomic.read (.int k) (AA.ev ρ ⟨.dyn i, .lit (.ofNat n)⟩) >>= _) Q w
    refine (wq_bind _ _).2 (wq_read h1 h2 ?_)
    show wq K.P K.Ev E (pure (IE.ev ρ e == IE.ev ρ old) >>= _) Q w
    refine (wq_bind _ _).2 ?_
    rw [wq_pure, hcmp]
    cases b with
    | true =>
      simp only [if_true, wq_bind, wq_pure]
      exact wq_swrite R G hs (hq _ _ (after_store R G hs rfl))
    | false =>
      simp only [Bool.false_eq_true, if_false, wq_pure, wq_bind]
      exact hq _ _ (After.same R rfl)

theorem mark_ok (G : K.Good) (R : Rel K ρ h w) (I : Ids K U h) (m : Addr → Mark) (m1 : ∀ a, markOk (m a) = true) {a : AA} : HOk K U ρ h w (Extern.Race.marked m (AV.evs ρ [.ptr (some a)]).toArray) undefA h := by
  refine HOk.pure R I (by simp [undefA, AV.In, AV.Ins]) fun {E Q} hq => ?_
  show wq K.P K.Ev E (do mark (m (← (pure (a.ev ρ) : Sem Addr))); pure Extern.Race.none_) Q w
  simp only [wq_bind, wq_pure, wq_mark]
  exact ⟨G.ext _ (m1 _), hq⟩

theorem quiet_ok (G : K.Good) (L : K.lock) (R : Rel K ρ h w) (I : Ids K U h) (m : Mark) : HOk K U ρ h w (do mark m; pure Extern.Race.none_) undefA h := by
  refine HOk.pure R I (by simp [undefA, AV.In, AV.Ins]) fun {E Q} hq => ?_
  simp only [wq_bind, wq_pure, wq_mark]
  exact ⟨G.lock L _, hq⟩
end
end Go.Proofs.Ytcpiafgkmakdiaa.SX
