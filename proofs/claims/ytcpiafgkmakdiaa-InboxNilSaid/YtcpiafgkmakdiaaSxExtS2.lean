/-
  The entries that look at memory, sound: reflectlite; all together.
-/
import Derived.Test.YtcpiafgkmakdiaaSxExtS1
set_option linter.unusedSectionVars false
set_option linter.unusedVariables false
set_option linter.unusedSimpArgs false
namespace Go.Proofs.Ytcpiafgkmakdiaa.SX

section
variable {K : Ctx} {ρ : Env} {h : AH} {w : World} {U : Nat → Prop} {E : Value → World → Prop}

theorem kind?_ok {P : Program} {t : TypeId} {n : Nat} (hk : kind? P t = .ok n) : pureRun P (Extern.Rtype.kind t) = some n := by
  unfold kind? at hk
  split at hk
  · rename_i h; cases hk; exact h
  · cases hk

theorem wq_handle {t : TypeId} {Q : Value → World → Prop} (hq : Q (.pointer (some ⟨K.P.globals.size, t, none⟩)) w) : wq K.P K.Ev E (Extern.Rtype.handle t) Q w := by
  simp only [Extern.Rtype.handle, wq_bind, wq_program, wq_pure]
  exact hq

theorem wq_mk {t : TypeId} {a : AA} {fl : Nat} {r : AV} (hr : mkV? K.P t a fl = .ok r) {Q : Value → World → Prop} (hq : Q (r.ev ρ) w) : wq K.P K.Ev E (Extern.ReflectliteValue.mk t (a.ev ρ) fl) Q w := by
  unfold mkV? at hr
  rw [bind_ok] at hr
  obtain ⟨n, hn, hr⟩ := hr
  cases hr
  unfold Extern.ReflectliteValue.mk
  simp only [wq_bind]
  refine wq_handle (wq_pureRun (kind?_ok hn) ?_)
  rw [wq_pure]
  exact hq

theorem mkV?_in {P : Program} {t : TypeId} {a : AA} {fl : Nat} {r : AV} (hr : mkV? P t a fl = .ok r) (ha : a.In U) : r.In U := by
  unfold mkV? at hr
  rw [bind_ok] at hr
  obtain ⟨n, hn, hr⟩ := hr
  cases hr
  exact ⟨⟨trivial, trivial⟩, ha, trivial, trivial⟩

theorem handle?_ok {P : Program} {x : AV} {t : TypeId} (hx : handle? P x = some t) (ρ : Env) : handleType P (x.ev ρ) = some t := by
  unfold handle? at hx
  split at hx
  · split at hx
    · rename_i b o hb
      cases hx
      simp only [AV.ev, Option.map_some, AA.ev, BR.ev, IE.ev, handleType, hb, if_true]
      rfl
    · cases hx
  · cases hx

structure PartsIs (P : Program) (x : AV) (t : TypeId) (a : AA) (f : Nat) : Prop where
  ex : ∃ h, x = .agg [h, .ptr (some a), .int .u64 (.lit (.ofNat f))] ∧ handle? P h = some t
  pos : f ≠ 0
  pack : P.packed t = false

theorem partsV?_ok {P : Program} {x : AV} {t : TypeId} {a : AA} {f : Nat} (hp : partsV? P x = .ok (t, a, f)) : PartsIs P x t a f := by
  unfold partsV? at hp
  split at hp
  · split at hp
    · rename_i hh
      split at hp
      · cases hp
      · rename_i hc
        cases hp
        simp only [Bool.or_eq_true, decide_eq_true_eq, not_or, Bool.not_eq_true] at hc
        exact ⟨⟨_, rfl, hh⟩, hc.1, hc.2⟩
    · cases hp
  · cases hp

theorem PartsIs.in {x : AV} {t : TypeId} {a : AA} {f : Nat} (p : PartsIs K.P x t a f) (hx : x.In U) : a.In U := by
  obtain ⟨hh, rfl, _⟩ := p.ex
  exact hx.2.1

theorem wq_partsAny {x : AV} {t : TypeId} {a : AA} {f : Nat} (p : PartsIs K.P x t a f) {Q : Option (TypeId × Addr × Nat) → World → Prop} (hq : Q (some (t, a.ev ρ, f)) w) : wq K.P K.Ev E (Extern.ReflectliteValue.partsAny (x.ev ρ)) Q w := by
  obtain ⟨hh, rfl, ht⟩ := p.ex
  have hne : f ≠ 0 := p.pos
  obtain ⟨m, rfl⟩ : ∃ m, f = m + 1 := ⟨f - 1, by omega⟩
  show wq K.P K.Ev E (Extern.Rtype.ofHandle (hh.ev ρ) >>= fun t => pure (some (t, a.ev ρ, m + 1))) Q w
  simp only [wq_bind, Extern.Rtype.ofHandle, wq_program, handle?_ok ht, wq_pure]
  exact hq

theorem wq_noPack {s : String} {t : TypeId} (hp : K.P.packed t = false) {Q : Unit → World → Prop} (hq : Q () w) : wq K.P K.Ev E (Extern.Rtype.noPack s t) Q w := by
  unfold Extern.Rtype.noPack
  simp only [wq_bind, wq_program, hp, Bool.false_eq_true, if_false, wq_pure]
  exact hq

theorem wq_parts {x : AV} {t : TypeId} {a : AA} {f : Nat} (p : PartsIs K.P x t a f) {Q : Option (TypeId × Addr × Nat) → World → Prop} (hq : Q (some (t, a.ev ρ, f)) w) : wq K.P K.Ev E (Extern.ReflectliteValue.parts (x.ev ρ)) Q w := by
  unfold Extern.ReflectliteValue.parts
  rw [wq_bind]
  refine wq_partsAny p ?_
  simp only [wq_bind]
  refine wq_noPack p.pack ?_
  rw [wq_pure]
  exact hq

theorem wq_rmethod {z : Sem Value} {g : TypeId → Addr → Nat → Nat → Sem Value} {x : AV} {t : TypeId} {a : AA} {f : Nat} (p : PartsIs K.P x t a f) {Q : Value → World → Prop} (hq : wq K.P K.Ev E (g t (a.ev ρ) f (f % 32)) Q w) :
    wq K.P K.Ev E (Extern.ReflectliteValue.method z g (AV.evs ρ [x]).toArray) Q w := by
  show wq K.P K.Ev E (Extern.ReflectliteValue.parts (x.ev ρ) >>= _) Q w
  rw [wq_bind]
  exact wq_parts p hq

theorem wq_rmethodAny {z : Sem Value} {g : TypeId → Addr → Nat → Nat → Sem Value} {x : AV} {t : TypeId} {a : AA} {f : Nat} (p : PartsIs K.P x t a f) {Q : Value → World → Prop} (hq : wq K.P K.Ev E (g t (a.ev ρ) f (f % 32)) Q w) :
    wq K.P K.Ev E (Extern.ReflectliteValue.methodAny z g (AV.evs ρ [x]).toArray) Q w := by
  show wq K.P K.Ev E (Extern.ReflectliteValue.partsAny (x.ev ρ) >>= _) Q w
  rw [wq_bind]
  exact wq_partsAny p hq

theorem unpack_ok (G : K.Good) (R : Rel K ρ h w) (I : Ids K U h) {x r : AV} {h' : AH} (hx : x.In U) (hu : unpackV? K.P h x = .ok (r, h')) : HOk K U ρ h w (Extern.ReflectliteValue.unpack (x.ev ρ)) r h' := by
  unfold unpackV? at hu
  split at hu
  · rename_i t v
    rw [bind_ok] at hu
    obtain ⟨cs, hc, hu⟩ := hu
    rw [bind_ok] at hu
    obtain ⟨⟨y, h1⟩, ha, hu⟩ := hu
    dsimp only at hu
    split at hu
    · rename_i a
      rw [bind_ok] at hu
      obtain ⟨r', hr, hu⟩ := hu
      cases hu
      obtain ⟨_, g1, g2, g3⟩ := alloc?_sound R I ha (cells?_in hc hx)
      refine ⟨mkV?_in hr g1, g2, fun {E Q} hq => ?_⟩
      show wq K.P K.Ev E (newVar t (v.ev ρ) >>= fun b => Extern.ReflectliteValue.mk t b 0) Q w
      rw [wq_bind]
      refine wq_newVar_of (cells?_ev hc ρ) ?_
      obtain ⟨ρ', a1, a2, a3, a4⟩ := g3 (AV.evs ρ cs).toArray (by simp [ABlk.fits])
      have ha4 : a.ev ρ' = ⟨w.heap.size, 0, none⟩ := by simpa [AV.ev] using a4
      rw [← ha4]
      exact wq_mk hr (hq _ _ ⟨ρ', a1, a2, a3, rfl⟩)
    · cases hu
  · cases hu
    exact HOk.pure R I ⟨trivial, trivial, trivial, trivial⟩ fun {E Q} hq => hq
  · cases hu

theorem toType_ok (R : Rel K ρ h w) (I : Ids K U h) {t : TypeId} {v : Value} (hv : pureRun K.P (Extern.ReflectliteType.toType t) = some v) : HOk K U ρ h w (Extern.ReflectliteType.toType t) (ofValue v) h :=
  HOk.pure R I (ofValue_in v) fun {E Q} hq => wq_pureRun hv (by rw [ofValue_ev] at hq; exact hq)

theorem wq_isNil {v : AV} {b : Bool} (hb : isNil? v = .ok b) {Q : Value → World → Prop} (hq : Q (.bool b) w) :
    wq K.P K.Ev E (match v.ev ρ with
      | .chan none | .nilFunc | .nilIface | .map none | .pointer none | .slice none _ _ => (pure (.bool true) : Sem Value)
      | _ => pure (.bool false)) Q w := by
  unfold isNil? at hb
  split at hb <;> cases hb <;> exact hq

theorem xIsNil_ok (G : K.Good) (R : Rel K ρ h w) (I : Ids K U h) {z : Sem Value} {x r : AV} {h' : AH} (hx : x.In U) (he : xIsNil? K.P K.O h x = .ok (r, h')) : HOk K U ρ h w (Extern.ReflectliteValue.method z Extern.ReflectliteValue.isNil (AV.evs ρ [x]).toArray) r h' := by
  unfold xIsNil? at he
  rw [bind_ok] at he
  obtain ⟨⟨t, a, fl⟩, hp, he⟩ := he
  dsimp only at he
  split at he
  · rename_i hk
    rw [bind_ok] at he
    obtain ⟨v, hv, he⟩ := he
    rw [bind_ok] at he
    obtain ⟨b, hb, he⟩ := he
    cases he
    have p := partsV?_ok hp
    refine HOk.pure R I trivial fun {E Q} hq => wq_rmethod p ?_
    unfold Extern.ReflectliteValue.isNil
    simp only [hk, Bool.not_true, Bool.false_eq_true, if_false, wq_bind, wq_pure]
    exact wq_loadVar R G hv (wq_isNil hb hq)
  · cases he

theorem elemT?_ok {P : Program} {t e : TypeId} (he : elemT? P t = .ok e) : pureRun P (Extern.Rtype.elem? t) = some (some e) := by
  unfold elemT? at he
  split at he
  · rename_i h; cases he; exact h
  · cases he

theorem xElem_ok (G : K.Good) (R : Rel K ρ h w) (I : Ids K U h) {z : Sem Value} {x r : AV} {h' : AH} (hx : x.In U) (he : xElem? K.P K.O h x = .ok (r, h')) : HOk K U ρ h w (Extern.ReflectliteValue.method z Extern.ReflectliteValue.elem (AV.evs ρ [x]).toArray) r h' := by
  unfold xElem? at he
  rw [bind_ok] at he
  obtain ⟨⟨t, a, fl⟩, hp, he⟩ := he
  dsimp only at he
  have p := partsV?_ok hp
  rw [bind_ok] at he
  obtain ⟨v, hv, he⟩ := he
  have hvin := loadVar?_in I hv
  split at he
  · rename_i hk
    rw [bind_ok] at he
    obtain ⟨e, hel, he⟩ := he
    have hel' := elemT?_ok hel
    have front : ∀ {E : Value → World → Prop} {Q : Value → World → Prop}, wq K.P K.Ev E (match (22 : Nat), v.ev ρ, some e with
        | 20, i, _ => Extern.ReflectliteValue.unpack i
        | 22, .pointer none, _ => pure Extern.ReflectliteValue.zeroV
        | 22, .pointer (some p), some e => Extern.ReflectliteValue.mk e p Extern.ReflectliteValue.flagAddr
        | _, _, _ => Extern.ReflectliteValue.valueError "reflectlite.Value.Elem" 22) Q w → wq K.P K.Ev E (Extern.ReflectliteValue.method z Extern.ReflectliteValue.elem (AV.evs ρ [x]).toArray) Q w := by
      intro E Q hq
      refine wq_rmethod p ?_
      rw [hk]
      show wq K.P K.Ev E (loadVar t (a.ev ρ) >>= _) Q w
      rw [wq_bind]
      refine wq_loadVar R G hv ?_
      rw [wq_bind]
      exact wq_pureRun hel' hq
    split at he
    · cases he
      exact HOk.pure R I ⟨trivial, trivial, trivial, trivial⟩ fun {E Q} hq => front hq
    · rename_i q
      rw [bind_ok] at he
      obtain ⟨r', hr, he⟩ := he
      cases he
      exact HOk.pure R I (mkV?_in hr hvin) fun {E Q} hq => front (wq_mk hr hq)
    · cases he
  · split at he
    · rename_i hk
      rw [bind_ok] at he
      obtain ⟨e, hel, he⟩ := he
      have hel' : pureRun K.P (Extern.Rtype.elem? t) = some e := by
        split at hel
        · rename_i h; cases hel; exact h
        · cases hel
      have H := unpack_ok G R I hvin he
      refine ⟨H.mem, H.grows, fun {E Q} hq => ?_⟩
      refine wq_rmethod p ?_
      rw [hk]
      show wq K.P K.Ev E (loadVar t (a.ev ρ) >>= _) Q w
      rw [wq_bind]
      refine wq_loadVar R G hv ?_
      rw [wq_bind]
      refine wq_pureRun hel' ?_
      exact H.run hq
    · cases he

theorem pureB_ok {P : Program} {s : Sem Bool} {b : Bool} (h : pureB P s = .ok b) : pureRun P s = some b := by
  unfold pureB at h
  split at h
  · rename_i h'; cases h; exact h'
  · cases h

theorem xSet_ok (G : K.Good) (R : Rel K ρ h w) (I : Ids K U h) {v x r : AV} {h' : AH} (hv : v.In U) (hx : x.In U) (he : xSet? K.P K.O h v x = .ok (r, h')) : HOk K U ρ h w (Extern.ReflectliteValue.set (AV.evs ρ [v, x]).toArray) r h' := by
  unfold xSet? at he
  rw [bind_ok] at he
  obtain ⟨⟨dst, a, fl⟩, hp, he⟩ := he
  dsimp only at he
  have p := partsV?_ok hp
  rw [bind_ok] at he
  obtain ⟨⟨src, b, fl2⟩, hp2, he⟩ := he
  dsimp only at he
  have p2 := partsV?_ok hp2
  split at he
  · cases he
  · rename_i hfl
    rw [bind_ok] at he
    obtain ⟨val, hval, he⟩ := he
    rw [bind_ok] at he
    obtain ⟨val2, hval2, he⟩ := he
    rw [bind_ok] at he
    obtain ⟨h1, hst, he⟩ := he
    cases he
    have hvin := loadVar?_in I hval
    unfold setVal? at hval2
    have hv2in : val2.In U := by
      split at hval2
      · cases hval2
      · cases hval2; exact hvin
      · split at hval2
        · split at hval2
          · split at hval2
            · split at hval2
              · cases hval2; exact hvin
              · cases hval2
            · cases hval2; exact hvin
          · cases hval2
        · cases hval2
        · cases hval2
    have ids' := storeVar?_ids I hst hv2in
    have fin : ∀ {E : Value → World → Prop} {Q : Value → World → Prop}, (∀ x w', After K U ρ w h' (fun ρ' => x = undefA.ev ρ') w' → Q x w') → wq K.P K.Ev E (storeVar dst (a.ev ρ) (val2.ev ρ)) (fun _ w => Q (.tuple #[]) w) w := fun hq =>
      wq_storeVar R G hst fun w' R' kp _ _ => hq _ _ ⟨ρ, Agree.refl _ _, R', kp, rfl⟩
    have nb : h'.nb = h.nb ∧ h'.lim = h.lim := by
      have := (wq_run (P := K.P) (Ev := K.Ev) (E := fun _ _ => False) (Q := fun _ _ => h'.nb = h.nb ∧ h'.lim = h.lim) (wq_storeVar (ρ := ρ) R G hst (Q := fun _ _ => h'.nb = h.nb ∧ h'.lim = h.lim) fun w' _ _ a b => ⟨a, b⟩)).1
      generalize (storeVar dst (a.ev ρ) (val2.ev ρ)).run K.P w = r at this
      cases r with
      | ok u w' => exact this
      | halt y w' => cases y <;> exact this.elim
    refine ⟨by simp [undefA, AV.In, AV.Ins], ⟨by rw [nb.1]; exact Nat.le_refl _, nb.2, by rw [nb.1]; exact ids'.congr (fun n => ⟨.inl, plus_none n⟩)⟩, fun {E Q} hq => ?_⟩
    show wq K.P K.Ev E (Extern.ReflectliteValue.parts (v.ev ρ) >>= _) Q w
    rw [wq_bind]
    refine wq_parts p ?_
    rw [wq_bind]
    refine wq_parts p2 ?_
    have hfl' : (fl / Extern.ReflectliteValue.flagAddr % 2 == 0) = false := by
      simpa [Extern.ReflectliteValue.flagAddr] using hfl
    simp only [hfl', Bool.false_eq_true, if_false, wq_bind]
    refine wq_loadVar R G hval ?_
    split at hval2
    · cases hval2
    · rename_i hda
      cases hval2
      refine wq_pureRun (pureB_ok hda) ?_
      simp only [if_true, wq_bind, wq_pure]
      exact fin hq
    · rename_i hda
      refine wq_pureRun (pureB_ok hda) ?_
      simp only [Bool.false_eq_true, if_false, wq_bind]
      split at hval2
      · rename_i him
        rw [implementsA_eq] at him
        refine wq_pureRun (pureB_ok him) ?_
        simp only [if_true, wq_bind]
        split at hval2
        · rename_i k hk
          refine wq_pureRun (kind?_ok hk) ?_
          split at hval2
          · rename_i h20
            subst h20
            simp only [beq_self_eq_true, if_true]
            split at hval2
            · cases hval2
              simp only [AV.ev, wq_bind, wq_pure]
              exact fin hq
            · cases hval2
          · rename_i h20
            have : (k == 20) = false := by simpa using h20
            cases hval2
            simp only [this, Bool.false_eq_true, if_false, wq_bind, wq_pure]
            exact fin hq
        · cases hval2
      · cases hval2
      · cases hval2

/-! ### All together -/
def TabFacts (P : Program) (tab : List (FuncId × XE)) : Prop := ∀ p ∈ tab, ∃ e, ExtFact P p.1 e ∧ p.2.sem e

theorem ext_ok (G : K.Good) {tab : List (FuncId × XE)} (L : K.lock ∨ ∀ p ∈ tab, p.2 ≠ .quiet) (T : TabFacts K.P tab) : ExtOk K (ext? K.P K.O tab) := by
  intro U ρ h w f args v h' R I ha he
  have lift : ∀ {e : Array Value → Sem Value}, ExtFact K.P f e → HOk K U ρ h w (e (AV.evs ρ args).toArray) v h' → NOk K U ρ h w (callFunc f (AV.evs ρ args).toArray) (.value v) h' := fun hf H =>
    ⟨H.mem, H.grows, fun hq _ => wq_extern G hf (H.run fun x w' ⟨ρ', a1, a2, a3, a4⟩ => hq _ _ ⟨ρ', a1, a2, a3, by rw [a4]; rfl⟩)⟩
  unfold ext? at he
  split at he
  · cases he
  · rename_i x hx
    obtain ⟨f', hm, hf'⟩ := look_some hx
    have : f = f' := by simpa using hf'
    subst this
    obtain ⟨e, hfact, hsem⟩ := T _ hm
    refine lift hfact ?_
    dsimp only at hsem
    split at he
    · -- ld
      have hs : e = _ := hsem
      subst hs
      rw [bind_ok] at he
      obtain ⟨n, hn, he⟩ := he
      cases he
      exact ld_ok G R I hn
    · have hs : e = _ := hsem
      subst hs
      rw [bind_ok] at he
      obtain ⟨n, hn, he⟩ := he
      cases he
      exact st_ok G R I ha.2.1 hn
    · have hs : e = _ := hsem
      subst hs
      rw [bind_ok] at he
      obtain ⟨n, hn, he⟩ := he
      rw [bind_ok] at he
      obtain ⟨h1, hh, he⟩ := he
      cases he
      exact sw_ok G R I ha.2.1 hn hh
    · have hs : e = _ := hsem
      subst hs
      rw [bind_ok] at he
      obtain ⟨n, hn, he⟩ := he
      rw [bind_ok] at he
      obtain ⟨b, hb, he⟩ := he
      rw [bind_ok] at he
      obtain ⟨h1, hh, he⟩ := he
      cases he
      exact cas_ok G R I ha.2.2.1 hn hb hh
    · have hs : e = _ := hsem
      subst hs
      rw [bind_ok] at he
      obtain ⟨n, hn, he⟩ := he
      rw [bind_ok] at he
      obtain ⟨h1, hh, he⟩ := he
      cases he
      exact add_ok G R I ha.2.1 hn hh (int_in I ⟨(ldInt_ok R G hn).2.2 I, ha.2.1⟩)
    · have hs : e = _ := hsem
      subst hs
      cases he
      exact mark_ok G R I _ (fun _ => rfl)
    · have hs : e = _ := hsem
      subst hs
      cases he
      exact mark_ok G R I _ (fun _ => rfl)
    · have hs : e = _ := hsem
      subst hs
      cases he
      exact mark_ok G R I _ (fun _ => rfl)
    · obtain ⟨m, rfl⟩ := hsem
      cases he
      exact quiet_ok G (L.resolve_right fun x => x _ hm rfl) R I m
    · have hs : e = _ := hsem
      subst hs
      split at he
      · rename_i t _ vv hv
        cases he
        exact toType_ok R I hv
      · cases he
    · have hs : e = _ := hsem
      subst hs
      cases he
      exact HOk.pure R I trivial fun {E Q} hq => hq
    · have hs : e = _ := hsem
      subst hs
      exact unpack_ok G R I ha.1 he
    · obtain ⟨z, rfl⟩ := hsem
      rw [bind_ok] at he
      obtain ⟨⟨t, a, fl⟩, hp, he⟩ := he
      dsimp only at he
      split at he
      · rename_i vv hv
        cases he
        have H := toType_ok R I hv (U := U)
        exact ⟨H.mem, H.grows, fun {E Q} hq => wq_rmethodAny (partsV?_ok hp) (H.run hq)⟩
      · cases he
    · obtain ⟨z, rfl⟩ := hsem
      exact xIsNil_ok G R I ha.1 he
    · obtain ⟨z, rfl⟩ := hsem
      exact xElem_ok G R I ha.1 he
    · have hs : e = _ := hsem
      subst hs
      exact xSet_ok G R I ha.1 ha.2.1 he
    · cases he
end
end Go.Proofs.Ytcpiafgkmakdiaa.SX
