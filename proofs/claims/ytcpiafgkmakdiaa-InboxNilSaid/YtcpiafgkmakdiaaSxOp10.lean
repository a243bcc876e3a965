/-
  Calls; every operation.
-/
import Derived.Test.YtcpiafgkmakdiaaSxOp9
set_option linter.unusedSectionVars false
set_option linter.unusedVariables false
set_option linter.unusedSimpArgs false
namespace Go.Proofs.Ytcpiafgkmakdiaa.SX

/-! ### Facts on the program -/
def fnOk (P : Program) (f : FuncId) : Bool :=
  match P.funcs[f]? with
  | some fn => !(fn.name == "runtime.NumGoroutine") && fn.body.isSome
  | none => false

structure ExtFact (P : Program) (f : FuncId) (e : Array Value → Sem Value) : Prop where
  fact : ∃ fn, P.funcs[f]? = some fn ∧ (fn.name == "runtime.NumGoroutine") = false ∧ fn.body.isNone = true ∧ Extern.findNext fn = none ∧ Extern.find fn = some e

structure Ctx.Facts (K : Ctx) : Prop where
  fns : K.O.fns.all (fnOk K.P) = true
  ext : ∀ p ∈ K.O.ext, ExtFact K.P p.1 p.2
  mixed : K.P.follows .mixedOrders = true

section
variable {K : Ctx} {ρ : Env} {h : AH} {w : World} {U : Nat → Prop}

theorem wq_enter {E : Value → World → Prop} {f : FuncId} {args : Array Value} (hf : fnOk K.P f = true) {Q : Next → World → Prop} (hq : Q (.enter f args) w) : wq K.P K.Ev E (callFunc f args) Q w := by
  unfold fnOk at hf
  split at hf
  · rename_i fn hfn
    simp only [Bool.and_eq_true, Bool.not_eq_true'] at hf
    simp only [callFunc, wq_bind, wq_program, hfn]
    rw [if_neg (by rw [hf.1]; simp), if_neg (by have := hf.2; revert this; cases fn.body <;> simp)]
    exact hq
  · cases hf

theorem wq_extern (G : K.Good) {E : Value → World → Prop} {f : FuncId} {e : Array Value → Sem Value} {args : Array Value} (hf : ExtFact K.P f e) {Q : Next → World → Prop} (hq : wq K.P K.Ev E (e args) (fun v w => Q (.value v) w) w) : wq K.P K.Ev E (callFunc f args) Q w := by
  obtain ⟨fn, h1, h2, h3, h4, h5⟩ := hf.fact
  simp only [callFunc, wq_bind, wq_program, h1]
  rw [if_neg (by rw [h2]; simp), if_pos h3]
  simp only [wq_bind, wq_mark, h4, h5, wq_pure]
  exact ⟨G.ext _ rfl, hq⟩

/-- What is asked of the entries that look at memory. -/
def ExtOk (K : Ctx) (ext : Ext) : Prop := ∀ {U : Nat → Prop} {ρ : Env} {h : AH} {w : World} {f : FuncId} {args : List AV} {v : AV} {h' : AH}, Rel K ρ h w → Ids K U h → AV.Ins U args → ext h f args = .ok (v, h') →
  NOk K U ρ h w (callFunc f (AV.evs ρ args).toArray) (.value v) h'

theorem invokeFn?_ok (G : K.Good) (F : K.Facts) {ext : Ext} (X : ExtOk K ext) (R : Rel K ρ h w) (I : Ids K U h) {f : FuncId} {args : List AV} {n : AN} {h' : AH} (ha : AV.Ins U args) (he : invokeFn? K.P K.O ext h f args = .ok (n, h')) :
    NOk K U ρ h w (callFunc f (AV.evs ρ args).toArray) n h' := by
  have viaExt : ∀ {r : M (AV × AH)}, r = ext h f args → (match r with | .ok (v, h) => (.ok (.value v, h) : M (AN × AH)) | .error e => .error e) = .ok (n, h') → NOk K U ρ h w (callFunc f (AV.evs ρ args).toArray) n h' := by
    intro r hr hh
    split at hh
    · cases hh; exact X R I ha hr.symm
    · cases hh
  unfold invokeFn? at he
  split at he
  · rename_i hc
    cases he
    have hf : fnOk K.P f = true := List.all_eq_true.1 F.fns f (by simpa using hc)
    exact ⟨AV.Ins.mono plus_sub _ ha, Grows.refl I, fun hq _ => wq_enter hf (hq _ _ (After.same R rfl))⟩
  · split at he
    · rename_i e hl
      obtain ⟨x, hx, hxe⟩ := look_some hl
      have : f = x := by simpa using hxe
      subst this
      split at he
      · rename_i vs hvs
        split at he
        · rename_i v hv
          cases he
          refine ⟨ofValue_in _, Grows.refl I, fun hq _ => wq_extern G (F.ext _ hx) ?_⟩
          rw [vals?_evs ρ args hvs]
          exact wq_pureRun hv (hq _ _ (After.same R (by simp [AN.is, ofValue_ev])))
        · exact viaExt rfl he
      · exact viaExt rfl he
    · exact viaExt rfl he

theorem wq_method {E : Value → World → Prop} {t : TypeId} {v r : AV} {name : String} {f : FuncId} (he : method? K.P t v name = .ok (f, r)) {Q : FuncId × Value → World → Prop} (hq : Q (f, r.ev ρ) w) :
    wq K.P K.Ev E (method (K.P.types.size + Made.depth) t (v.ev ρ) name) Q w := by
  unfold method? at he
  split at he
  · cases he
  · rename_i i hi
    split at he
    · cases he
    · rename_i m hm
      split at he
      · rename_i hp
        obtain ⟨d, hd⟩ : ∃ d, K.P.types.size + Made.depth = d + 1 := ⟨K.P.types.size + 99, rfl⟩
        have hpe : m.path.toList = [] := by simpa using hp
        rw [hd]
        simp only [method, wq_bind, wq_typeInfo hi, hm, hpe, follow, wq_pure]
        split at he
        · rename_i f' hf
          split at he
          · rename_i e hu
            cases he
            simp only [hf, receiverAt, wq_bind, wq_underlying hu, Place.get, wq_pure]
            exact hq
          · cases he
        · rename_i f' hf
          split at he
          · cases he
          · rename_i D hnp hu
            cases he
            simp only [hf, receiverAt, wq_bind, wq_underlying hu]
            cases D <;> first
              | exact absurd hu (hnp _)
              | exact hq
          · cases he
        · cases he
      · split at he
        · rename_i u hu
          split at he
          · rename_i f' r' hr
            cases he
            rw [val?_ev ρ v hu]
            exact wq_pureRun hr (by simpa [ofValue_ev] using hq)
          · cases he
        · cases he
theorem method?_in {P : Program} {t : TypeId} {v r : AV} {name : String} {f : FuncId} (he : method? P t v name = .ok (f, r)) (hv : v.In U) : r.In U := by
  unfold method? at he
  split at he
  · cases he
  · split at he
    · cases he
    · split at he
      · split at he
        all_goals try (split at he)
        all_goals first | (cases he; exact hv) | cases he
      · split at he
        · split at he
          · cases he; exact ofValue_in _
          · cases he
        · cases he

theorem invoke?_ok (G : K.Good) (F : K.Facts) {ext : Ext} (X : ExtOk K ext) (R : Rel K ρ h w) (I : Ids K U h) {d : AD} {n : AN} {h' : AH} (hd : d.In U) (he : invoke? K.P K.O ext h d = .ok (n, h')) :
    NOk K U ρ h w (invoke (d.target.ev ρ) (AV.evs ρ d.args).toArray) n h' := by
  obtain ⟨target, args⟩ := d
  obtain ⟨hd1, hd2⟩ := hd
  unfold invoke? at he
  dsimp only at he hd1 hd2 ⊢
  split at he
  · exact builtin?_ok G R I hd2 he
  · rename_i f captured
    have e : invoke (ATarget.ev ρ (.fn (.func f) captured)) (AV.evs ρ args).toArray = callFunc f (AV.evs ρ (args ++ captured)).toArray := by
      simp [ATarget.ev, invoke, evs_append]
    rw [e]
    exact invokeFn?_ok G F X R I (Ins_iff.2 fun a ha => (List.mem_append.1 ha).elim (Ins_iff.1 hd2 a) (Ins_iff.1 hd1 a)) he
  · rename_i name captured
    split at he
    · rename_i t v args'
      split at he
      · rename_i f r hm
        have hr := method?_in hm hd2.1
        obtain ⟨r1, r2, r3⟩ := invokeFn?_ok G F X R I (args := r :: args') ⟨hr, hd2.2⟩ he
        refine ⟨r1, r2, fun {E Q} hq hE => ?_⟩
        have e : (AV.evs ρ (AV.iface t v :: args')).toArray = #[.iface t (v.ev ρ)] ++ (AV.evs ρ args').toArray := by simp [AV.evs, AV.ev]
        simp only [ATarget.ev, invoke, e]
        have e0 : (#[Value.iface t (v.ev ρ)] ++ (AV.evs ρ args').toArray)[0]? = some (.iface t (v.ev ρ)) := by simp
        have e1 : (#[Value.iface t (v.ev ρ)] ++ (AV.evs ρ args').toArray).extract 1 (#[Value.iface t (v.ev ρ)] ++ (AV.evs ρ args').toArray).size = (AV.evs ρ args').toArray := by
          simp
        rw [e0]
        simp only [callMethod, e1, wq_bind, wq_program]
        refine wq_method hm ?_
        have e2 : #[r.ev ρ] ++ (AV.evs ρ args').toArray = (AV.evs ρ (r :: args')).toArray := by simp [AV.evs]
        simp only [e2]
        exact r3 hq hE
      · cases he
    · cases he
  · cases he

theorem storeS?_ids (I : Ids K U h) {t : TypeId} {a : AA} {v : AV} {h' : AH} (hs : storeS? K.P K.O h t a v = .ok h') (hv : v.In U) : Ids K U h' ∧ h'.nb = h.nb ∧ h'.lim = h.lim := by
  have old : ∀ {h' : AH}, storeVar? K.P h t a v = .ok h' → Ids K U h' ∧ h'.nb = h.nb ∧ h'.lim = h.lim := fun hs => by
    refine ⟨storeVar?_ids I hs hv, ?_⟩
    unfold storeVar? at hs
    simp only [bind_ok] at hs
    obtain ⟨cs, hc, nn, hn, hs⟩ := hs
    split at hs
    · exact storeN_nb hs
    · cases hs
  unfold storeS? at hs
  split at hs
  · split at hs
    · unfold storeRow? at hs
      simp only [bind_ok] at hs
      obtain ⟨cs, hc, hs⟩ := hs
      split at hs
      · simp only [bind_ok] at hs
        obtain ⟨size, hsz, ok, hok, n, hn, hs⟩ := hs
        split at hs <;> cases hs
        exact ⟨I, rfl, rfl⟩
      · cases hs
    · exact old hs
  · exact old hs

theorem wq_resolve {E : Value → World → Prop} {ρA : Operand → AV} {c : Call} {ty : TypeId} {d : AD} (he : resolve? ρA c ty = .ok d) {Q : Deferred → World → Prop} (hq : Q (d.ev ρ) w) : wq K.P K.Ev E (resolve (fun x => (ρA x).ev ρ) c ty) Q w := by
  have hargs : c.args.map (fun x => (ρA x).ev ρ) = (AV.evs ρ (c.args.toList.map ρA)).toArray := by
    rw [evs_map, List.map_map]
    apply Array.toList_inj.1
    simp [Function.comp_def]
  unfold resolve? at he
  split at he
  · rename_i b hb
    cases he
    simp only [resolve, hb, hargs, wq_pure]
    exact hq
  · rename_i recv name hb
    cases he
    simp only [resolve, hb, hargs, wq_pure]
    have : #[(ρA recv).ev ρ] ++ (AV.evs ρ (c.args.toList.map ρA)).toArray = (AV.evs ρ (ρA recv :: c.args.toList.map ρA)).toArray := by simp [AV.evs]
    rw [this]
    exact hq
  · rename_i f hb
    split at he
    · rename_i fn first captured hf
      cases he
      simp only [resolve, hb, hargs, hf, AV.ev, Deferred.ofValue, wq_pure]
      have : (AV.evs ρ first).toArray ++ (AV.evs ρ (c.args.toList.map ρA)).toArray = (AV.evs ρ (first ++ c.args.toList.map ρA)).toArray := by simp [evs_append]
      rw [this]
      exact hq
    · cases he
theorem resolve?_in {ρA : Operand → AV} {c : Call} {ty : TypeId} {d : AD} (he : resolve? ρA c ty = .ok d) (hA : ∀ x, (ρA x).In U) : d.In U := by
  have hargs : AV.Ins U (c.args.toList.map ρA) := Ins_iff.2 fun a ha => by obtain ⟨x, _, rfl⟩ := List.mem_map.1 ha; exact hA x
  unfold resolve? at he
  split at he
  · cases he; exact ⟨trivial, hargs⟩
  · cases he; exact ⟨trivial, hA _, hargs⟩
  · rename_i f hb
    split at he
    · rename_i fn first captured hf
      cases he
      have := hA f
      rw [hf] at this
      exact ⟨this.2, Ins_iff.2 fun a ha => (List.mem_append.1 ha).elim (Ins_iff.1 this.1 a) (Ins_iff.1 hargs a)⟩
    · cases he

theorem op?_ok (G : K.Good) (F : K.Facts) {ext : Ext} (X : ExtOk K ext) (R : Rel K ρ h w) (I : Ids K U h) {ρA : Operand → AV} (hA : ∀ x, (ρA x).In U) {o : Oper} {n : AN} {h' : AH} (he : op? K.P K.O ext h ρA o = .ok (n, h')) :
    NOk K U ρ h w (execOp (fun x => (ρA x).ev ρ) o) n h' := by
  have map2 : ∀ (parts : Array (Nat × Operand)), (parts.map fun (i, x) => (i, (ρA x).ev ρ)) = ((parts.toList.map fun (i, x) => (i, ρA x)).map fun p => (p.1, p.2.ev ρ)).toArray := fun parts => by
    apply Array.toList_inj.1
    simp [Function.comp_def]
  have in2 : ∀ (parts : Array (Nat × Operand)), ∀ p ∈ (parts.toList.map fun (i, x) => (i, ρA x)), p.2.In U := fun parts p hp => by
    obtain ⟨q, _, rfl⟩ := List.mem_map.1 hp; exact hA _
  have inm : ∀ (l : List Operand), AV.Ins U (l.map ρA) := fun l => Ins_iff.2 fun a ha => by obtain ⟨x, _, rfl⟩ := List.mem_map.1 ha; exact hA x
  have inval : ∀ {v : AV}, v.In U → (AN.value v).In (plus U h.nb h.nb) := fun hv => AV.In.mono plus_sub _ hv
  unfold op? at he
  unfold execOp
  split at he
  · rename_i x ho
    cases he
    simp only [ho]
    exact ⟨inval (hA x), Grows.refl I, fun hq _ => hq _ _ (After.same R rfl)⟩
  · rename_i x ho
    cases he
    simp only [ho]
    exact ⟨inval (hA x), Grows.refl I, fun hq _ => hq _ _ (After.same R rfl)⟩
  · rename_i c a b ho
    simp only [ho]
    split at he
    · rename_i t ht
      split at he
      · rename_i t' ht'
        cases he
        have hb := bool_lit R ht'
        refine ⟨inval (by split; exact hA a; exact hA b), Grows.refl I, fun hq _ => ?_⟩
        simp only [ht, AV.ev, asBool, wq_bind, wq_pure, hb]
        exact hq _ _ (After.same R (by cases t' <;> rfl))
      · cases he
    · cases he
  · rename_i elem ho
    simp only [ho]
    split at he
    · rename_i z hz
      split at he
      · rename_i cs hc
        obtain ⟨v, hv, rfl⟩ := allocOp_ok he
        exact (alloc_ok R I hz hc hv).next
      · cases he
    · cases he
  · rename_i elem x ho
    simp only [ho]
    split at he
    · rename_i cs hc
      obtain ⟨v, hv, rfl⟩ := allocOp_ok he
      exact (box_ok R I (hA x) hc hv).next
    · cases he
  · rename_i t parts ho
    simp only [ho]
    obtain ⟨v, hv, rfl, rfl⟩ := valOp_ok he
    rw [map2]
    exact NOk.pure R I (build?_in hv (in2 parts)) fun {E Q} hq => wq_build hv hq
  · rename_i t len parts ho
    simp only [ho]
    obtain ⟨v, hv, rfl⟩ := allocOp_ok he
    rw [map2]
    exact (buildSlice_ok R I (in2 parts) hv).next
  · rename_i t a ho
    simp only [ho]
    split at he
    · rename_i a' ha
      obtain ⟨v, hv, rfl, rfl⟩ := valOp_ok he
      refine NOk.pure R I (loadVar?_in I hv) fun {E Q} hq => ?_
      rw [sureAddr?_ok ha]
      simp only [Instr.loadAt, AV.ev, Option.map_some, Instr.sureAddr, wq_bind, wq_pure]
      exact wq_loadVar R G hv hq
    · cases he
  · rename_i t a x ho
    simp only [ho]
    split at he
    · rename_i a' ha
      obtain ⟨hv, rfl⟩ := skipOp_ok he
      obtain ⟨I', hnb⟩ := storeS?_ids I hv (hA x)
      refine ⟨trivial, Grows.of_same I' hnb.1 hnb.2, fun hq _ => ?_⟩
      rw [sureAddr?_ok ha]
      simp only [Instr.storeAt, AV.ev, Option.map_some, Instr.sureAddr, wq_bind, wq_pure]
      exact wq_storeS R G hv fun w' r1 r2 => hq _ _ ⟨ρ, Agree.refl _ _, r1, r2, rfl⟩
    · cases he
  · rename_i x ho
    simp only [ho]
    split at he
    · rename_i a ha
      cases he
      have hx := hA x
      rw [ha] at hx
      refine ⟨inval hx, Grows.refl I, fun hq _ => ?_⟩
      simp only [ha, AV.ev, Option.map_some, wq_pure]
      exact hq _ _ (After.same R rfl)
    · rename_i t v ha
      cases he
      have hx := hA x
      rw [ha] at hx
      refine ⟨inval hx, Grows.refl I, fun hq _ => ?_⟩
      simp only [ha, AV.ev, wq_pure]
      exact hq _ _ (After.same R rfl)
    · rename_i f a b ha
      cases he
      have hx := hA x
      rw [ha] at hx
      refine ⟨inval hx, Grows.refl I, fun hq _ => ?_⟩
      simp only [ha, AV.ev, wq_pure]
      exact hq _ _ (After.same R rfl)
    · cases he
  · rename_i op t x y yt ho
    simp only [ho]
    split at he
    · rename_i hg
      obtain ⟨v, hv, rfl, rfl⟩ := valOp_ok he
      refine NOk.pure R I (binOp?_in I hv (hA x) (hA y)) fun {E Q} hq => ?_
      rw [wq_bind]
      exact wq_eqGuard hg (wq_binOp R hv hq)
    · cases he
  · rename_i ty x ho
    simp only [ho]
    split at he
    · rename_i b hb
      split at he
      · rename_i c hc
        cases he
        have hx := hA x
        rw [hb] at hx
        refine NOk.pure R I (v := .bool (K.O.bool c)) (bool_in (notB_in hc hx)) fun {E Q} hq => ?_
        simp only [hb, AV.ev, Op.unary, wq_pure]
        simp only [AV.ev, bool_ev R, notB_ev hc] at hq
        exact hq
      · cases he
    · cases he
  · rename_i ty x ho
    simp only [ho]
    split at he
    · rename_i k e hb
      cases he
      have hx := hA x
      rw [hb] at hx
      refine NOk.pure R I (v := .int k (K.O.int (.op .sub k (.lit 0) e))) (int_in I ⟨trivial, hx⟩) fun {E Q} hq => ?_
      simp only [hb, AV.ev, Op.unary, Op.intArith, wq_pure]
      simp only [AV.ev, int_ev R, IE.ev, iop] at hq
      exact hq
    · cases he
  · rename_i src dst x ho
    simp only [ho]
    obtain ⟨v, hv, rfl, rfl⟩ := valOp_ok he
    exact NOk.pure R I (convert?_in I hv (hA x)) fun {E Q} hq => wq_convert R hv hq
  · rename_i t x ho
    simp only [ho]
    split at he
    · cases he
    · rename_i D hD hni
      cases he
      refine NOk.pure R I (v := .iface t (ρA x)) (hA x) fun {E Q} hq => ?_
      simp only [Instr.makeInterface, wq_bind, wq_underlying hni]
      cases D <;> first
        | exact absurd hni (hD _)
        | exact hq
    · cases he
  · rename_i fn first captured ho
    simp only [ho]
    cases he
    refine NOk.pure R I (v := .func fn (first.toList.map ρA) (captured.toList.map ρA)) ⟨inm _, inm _⟩ fun {E Q} hq => ?_
    have e1 : ∀ (l : Array Operand), l.map (fun x => (ρA x).ev ρ) = (AV.evs ρ (l.toList.map ρA)).toArray := fun l => by
      rw [evs_map, List.map_map]
      apply Array.toList_inj.1
      simp [Function.comp_def]
    simp only [Instr.makeFunc, e1, wq_pure]
    exact hq
  · rename_i t l c ho
    simp only [ho]
    obtain ⟨v, hv, rfl⟩ := allocOp_ok he
    exact (makeSliceS_ok G R I (hA _) hv).next
  · rename_i t x lo hi mx ho
    simp only [ho]
    obtain ⟨v, hv, rfl, rfl⟩ := valOp_ok he
    refine NOk.pure R I (sliceOp?_in hv (hA x)) fun {E Q} hq => ?_
    have := wq_sliceAt (K := K) (ρ := ρ) (w := w) (E := E) hv hq
    simpa only [Option.map_map, Function.comp_def] using this
  · rename_i s x f ho
    simp only [ho]
    obtain ⟨v, hv, rfl, rfl⟩ := valOp_ok he
    exact NOk.pure R I (fieldAddr?_in hv (hA x)) fun {E Q} hq => wq_fieldAt hv hq
  · rename_i t x f ho
    simp only [ho]
    obtain ⟨v, hv, rfl, rfl⟩ := valOp_ok he
    exact NOk.pure R I (field?_in hv (hA x)) fun {E Q} hq => wq_field hv hq
  · rename_i t x ix ho
    simp only [ho]
    obtain ⟨v, hv, rfl, rfl⟩ := valOp_ok he
    exact NOk.pure R I (indexAddr?_in hv (hA x) (hA ix)) fun {E Q} hq => wq_indexAt R hv hq
  · rename_i t x ix ho
    simp only [ho]
    obtain ⟨v, hv, rfl, rfl⟩ := valOp_ok he
    exact NOk.pure R I (indexOp?_in hv (hA x)) fun {E Q} hq => wq_index hv hq
  · rename_i x xt asserted ok ho
    simp only [ho]
    obtain ⟨v, hv, rfl, rfl⟩ := valOp_ok he
    exact NOk.pure R I (typeAssert?_in hv (hA x)) fun {E Q} hq => wq_typeAssert hv hq
  · rename_i t ix ho
    simp only [ho]
    split at he
    · rename_i vs hvs
      split at he
      · rename_i v hv
        cases he
        have hx := hA t
        rw [hvs] at hx
        refine NOk.pure R I (v := v) (Ins_iff.1 hx _ (List.mem_of_getElem? hv)) fun {E Q} hq => ?_
        simp only [hvs, AV.ev, Instr.extract]
        have : (AV.evs ρ vs).toArray[ix]? = some (v.ev ρ) := by rw [List.getElem?_toArray, evs_get, hv]; rfl
        rw [this]; exact hq
      · cases he
    · cases he
  · rename_i c ho
    simp only [ho]
    split at he
    · rename_i d hd
      obtain ⟨r1, r2, r3⟩ := invoke?_ok G F X R I (resolve?_in hd hA) he
      exact ⟨r1, r2, fun {E Q} hq hE => by
        simp only [wq_bind]
        exact wq_resolve (ρ := ρ) hd (r3 hq hE)⟩
    · cases he
  · rename_i c ho
    simp only [ho]
    split at he
    · rename_i d hd
      cases he
      have hin := resolve?_in hd hA
      refine ⟨⟨by have := hin.1; revert this; cases d.target <;> first | exact fun x => AV.Ins.mono plus_sub _ x | exact id, AV.Ins.mono plus_sub _ hin.2⟩, Grows.refl I, fun {E Q} hq hE => ?_⟩
      simp only [wq_bind]
      exact wq_resolve (ρ := ρ) hd (hq _ _ (After.same R rfl))
    · cases he
  · rename_i x ho
    simp only [ho]
    split at he
    · rename_i t v hx
      cases he
      have hi := hA x
      rw [hx] at hi
      refine ⟨inval hi, Grows.refl I, fun {E Q} hq hE => ?_⟩
      simp only [hx, AV.ev, Instr.panic, wq_bind, wq_goPanic]
      exact hE _ rfl rfl
    · cases he
  · rename_i t s ho
    simp only [ho]
    obtain ⟨v, hv, rfl⟩ := allocOp_ok he
    exact (makeChan_ok R I hv).next
  · rename_i t r ho
    simp only [ho]
    obtain ⟨v, hv, rfl⟩ := allocOp_ok he
    have : (r.map fun x => (ρA x).ev ρ) = (r.map ρA).map (AV.ev ρ) := by cases r <;> rfl
    rw [this]
    exact (makeMap_ok R I hv).next
  · rename_i t x k ok ho
    simp only [ho]
    obtain ⟨v, hv, rfl, rfl⟩ := valOp_ok he
    exact NOk.pure R I (lookup?_in I hv) fun {E Q} hq => wq_lookup R G hv hq
  · rename_i t m k x ho
    simp only [ho]
    obtain ⟨hv, rfl⟩ := skipOp_ok he
    obtain ⟨I', n1, n2⟩ := mapUpdate?_ids I (hA k) (hA x) hv
    refine ⟨trivial, Grows.of_same I' n1 n2, fun hq _ => ?_⟩
    simp only [wq_bind, wq_pure]
    exact wq_mapUpdate R G hv fun w' r1 r2 => hq _ _ ⟨ρ, Agree.refl _ _, r1, r2, rfl⟩
  · cases he
end
end Go.Proofs.Ytcpiafgkmakdiaa.SX
