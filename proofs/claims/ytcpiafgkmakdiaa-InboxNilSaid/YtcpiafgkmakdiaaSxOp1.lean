/-
  The operations, one by one: what yields a value alone.
-/
import Derived.Test.YtcpiafgkmakdiaaSxNew
set_option linter.unusedSectionVars false
set_option linter.unusedVariables false
set_option linter.unusedSimpArgs false
namespace Go.Proofs.Ytcpiafgkmakdiaa.SX

theorem bind_ok {α β : Type} {x : M α} {f : α → M β} {b : β} : (x >>= f) = .ok b ↔ ∃ a, x = .ok a ∧ f a = .ok b := by
  cases x with
  | ok a => simp [bind, Except.bind]
  | error e => simp [bind, Except.bind]
theorem pure_ok {α : Type} {a b : α} : (pure a : M α) = .ok b ↔ a = b := by simp [pure, Except.pure]
theorem ok_inj {α : Type} {a b : α} : (Except.ok a : M α) = .ok b ↔ a = b := by simp
theorem err_ok {α : Type} {e : String} {b : α} : (Except.error e : M α) = .ok b ↔ False := by simp

/-! ### Constants -/
theorem of1_ev (ρ : Env) (v : Value) : (of1 v).ev ρ = v := by
  unfold of1
  split <;> simp [AV.ev, BE.ev, IE.ev, AA.ev, BR.ev]
theorem of1_in {U : Nat → Prop} (v : Value) : (of1 v).In U := by
  unfold of1
  split <;> simp [AV.In, BE.In, IE.In, AA.In, BR.In, optIn]
theorem of1_evs (ρ : Env) (l : List Value) : AV.evs ρ (l.map of1) = l := by
  rw [evs_map, List.map_map]
  conv => rhs; rw [← List.map_id l]
  exact List.map_congr_left fun v _ => of1_ev ρ v
theorem of1_ins {U : Nat → Prop} (l : List Value) : AV.Ins U (l.map of1) := Ins_iff.2 fun a ha => by
  obtain ⟨v, _, rfl⟩ := List.mem_map.1 ha; exact of1_in v
theorem ofIface_ev (ρ : Env) (v : Value) : (ofIface v).ev ρ = v := by
  unfold ofIface
  split
  · simp [AV.ev, of1_ev]
  · exact of1_ev ρ _
theorem ofIface_in {U : Nat → Prop} (v : Value) : (ofIface v).In U := by
  unfold ofIface
  split
  · exact of1_in _
  · exact of1_in _
theorem of2_ev (ρ : Env) (v : Value) : (of2 v).ev ρ = v := by
  unfold of2
  split
  · simp [AV.ev, of1_evs]
  · simp [AV.ev, of1_evs]
  · exact ofIface_ev ρ _
theorem of2_in {U : Nat → Prop} (v : Value) : (of2 v).In U := by
  unfold of2
  split
  · exact of1_ins _
  · exact of1_ins _
  · exact ofIface_in _
theorem ofValue_ev (ρ : Env) (v : Value) : (ofValue v).ev ρ = v := by
  unfold ofValue
  split
  · simp only [AV.ev, evs_map, List.map_map]
    congr 1
    rename_i vs
    have : vs.toList.map (AV.ev ρ ∘ of2) = vs.toList := by
      conv => rhs; rw [← List.map_id vs.toList]
      exact List.map_congr_left fun v _ => of2_ev ρ v
    rw [this]
  · exact of2_ev ρ _
theorem ofValue_in {U : Nat → Prop} (v : Value) : (ofValue v).In U := by
  unfold ofValue
  split
  · exact Ins_iff.2 fun a ha => by obtain ⟨v, _, rfl⟩ := List.mem_map.1 ha; exact of2_in v
  · exact of2_in _

mutual
theorem val?_ev (ρ : Env) : ∀ (a : AV) {v : Value}, a.val? = some v → a.ev ρ = v
  | .bool b, v, h => by cases b <;> simp_all [AV.val?, AV.ev, BE.ev]
  | .int k e, v, h => by cases e <;> simp_all [AV.val?, AV.ev, IE.ev]
  | .str s, v, h => by simp_all [AV.val?, AV.ev]
  | .ptr a, v, h => by
    unfold AV.val? at h
    split at h <;> simp_all [AV.ev, AA.ev, BR.ev, IE.ev]
    all_goals first
      | (obtain ⟨rfl, rfl⟩ := h; simp_all [AV.ev, AA.ev, BR.ev, IE.ev]; done)
      | (rename_i hh; subst hh; simp [AA.ev, BR.ev, IE.ev]; done)
      | skip
  | .slice a l c, v, h => by
    unfold AV.val? at h
    split at h <;> simp_all [AV.ev, AA.ev, BR.ev, IE.ev]
    all_goals first
      | (obtain ⟨rfl, rfl, rfl⟩ := ‹_ ∧ _ ∧ _›; simp [IE.ev]; done)
      | skip
  | .map r, v, h => by cases r <;> simp_all [AV.val?, AV.ev]
  | .chan r, v, h => by cases r <;> simp_all [AV.val?, AV.ev]
  | .func f x y, v, h => by
    simp only [AV.val?] at h
    split at h
    · rename_i x' y' hx hy
      simp only [AV.ev, vals?_evs ρ x hx, vals?_evs ρ y hy]
      simpa using h
    · cases h
  | .nilFunc, v, h => by simp_all [AV.val?, AV.ev]
  | .iface t u, v, h => by
    simp only [AV.val?] at h
    split at h
    · rename_i u' hu
      simp only [AV.ev, val?_ev ρ u hu]
      simpa using h
    · cases h
  | .nilIface, v, h => by simp_all [AV.val?, AV.ev]
  | .agg x, v, h => by
    simp only [AV.val?] at h
    split at h
    · rename_i u' hu
      simp only [AV.ev, vals?_evs ρ x hu]
      simpa using h
    · cases h
  | .tuple x, v, h => by
    simp only [AV.val?] at h
    split at h
    · rename_i u' hu
      simp only [AV.ev, vals?_evs ρ x hu]
      simpa using h
    · cases h
  | .opq i, v, h => by simp [AV.val?] at h
  | .raw u, v, h => by simp_all [AV.val?, AV.ev]
theorem vals?_evs (ρ : Env) : ∀ (l : List AV) {vs : List Value}, AV.vals? l = some vs → AV.evs ρ l = vs
  | [], vs, h => by simp_all [AV.vals?, AV.evs]
  | a :: l, vs, h => by
    simp only [AV.vals?] at h
    split at h
    · rename_i v vs' hv hvs
      simp only [AV.evs, val?_ev ρ a hv, vals?_evs ρ l hvs]
      simpa using h
    · cases h
end

section
variable {K : Ctx} {ρ : Env} {h : AH} {w : World} {U : Nat → Prop}

/-! ### Sums and tests -/
theorem fold_ev (ρ : Env) (e : IE) : e.fold.ev ρ = e.ev ρ := by
  unfold IE.fold
  split <;> simp [IE.ev]
theorem fold_in {e : IE} (hi : e.In U) : e.fold.In U := by
  unfold IE.fold
  split <;> first | trivial | exact hi
theorem int_ev (R : Rel K ρ h w) (e : IE) : (K.O.int e).ev ρ = e.ev ρ := by
  unfold Orc.int
  split
  · rename_i n hn; rw [← fold_ev ρ e, hn]
  · rename_i hn
    cases hl : look IE.eqb e.fold K.O.is with
    | none => simp [fold_ev]
    | some e' =>
      obtain ⟨x, hx, he⟩ := look_some hl
      obtain rfl := IE.eqb_eq he
      simp only [Option.getD_some]
      rw [← R.is _ hx, fold_ev]
theorem int_in (I : Ids K U h) {e : IE} (hi : e.In U) : (K.O.int e).In U := by
  unfold Orc.int
  split
  · trivial
  · cases hl : look IE.eqb e.fold K.O.is with
    | none => exact fold_in hi
    | some e' =>
      obtain ⟨x, hx, _⟩ := look_some hl
      exact (I.orc.is _ hx).2
theorem bfold_ev (ρ : Env) (b : BE) : b.fold.ev ρ = b.ev ρ := by
  unfold BE.fold
  split <;> simp [BE.ev, IE.ev]
theorem bfold_in {b : BE} (hi : b.In U) : b.fold.In U := by
  unfold BE.fold
  split <;> first | trivial | exact hi
theorem bool_ev (R : Rel K ρ h w) (b : BE) : (K.O.bool b).ev ρ = b.ev ρ := by
  unfold Orc.bool
  split
  · rename_i n hn; rw [← bfold_ev ρ b, hn]
  · rename_i hn
    split
    · rename_i v hv
      obtain ⟨x, hx, he⟩ := look_some hv
      obtain rfl := BE.eqb_eq he
      rw [← bfold_ev ρ b, R.bs _ hx]; rfl
    · exact bfold_ev ρ b
theorem bool_in {b : BE} (hi : b.In U) : (K.O.bool b).In U := by
  unfold Orc.bool
  split
  · trivial
  · split
    · trivial
    · exact bfold_in hi
theorem bool_lit (R : Rel K ρ h w) {b : BE} {t : Bool} (e : K.O.bool b = .lit t) : b.ev ρ = t := by
  rw [← bool_ev R b, e]; rfl
theorem dec_ev (R : Rel K ρ h w) {b : BE} {t : Bool} (e : K.O.dec b = .ok t) : b.ev ρ = t := by
  unfold Orc.dec at e
  split at e
  · rename_i v hv; cases e; exact bool_lit R hv
  · cases e

/-! ### Cells -/
theorem cells?_ev {v : AV} {cs : List AV} (hc : v.cells? = .ok cs) (ρ : Env) : (v.ev ρ).cells = (AV.evs ρ cs).toArray := by
  cases v <;> simp [AV.cells?] at hc <;> subst hc <;> simp [AV.ev, Value.cells, AV.evs]
theorem cells?_in {v : AV} {cs : List AV} (hc : v.cells? = .ok cs) (hi : v.In U) : AV.Ins U cs := by
  cases v <;> simp [AV.cells?] at hc <;> subst hc <;> first | exact hi | exact ⟨hi, trivial⟩

theorem zero?_ok {P : Program} {t : TypeId} {z : AV} (h : zero? P t = .ok z) : ∃ i v, P.info? t = some i ∧ i.zero = some v ∧ z = ofValue v := by
  unfold zero? at h
  split at h
  · rename_i i hi
    split at h
    · rename_i v hv; cases h; exact ⟨i, v, hi, hv, rfl⟩
    · cases h
  · cases h
theorem wq_zeroValue {P : Program} {Ev : Event → Prop} {E : Value → World → Prop} {t : TypeId} {z : AV} (hz : zero? P t = .ok z) {Q : Value → World → Prop} {w : World} : wq P Ev E (zeroValue t) Q w ↔ Q (z.ev ρ) w := by
  obtain ⟨i, v, hi, hv, rfl⟩ := zero?_ok hz
  simp [zeroValue, wq_typeInfo hi, hv, ofValue_ev]
theorem zero?_in {P : Program} {t : TypeId} {z : AV} (hz : zero? P t = .ok z) : z.In U := by
  obtain ⟨i, v, hi, hv, rfl⟩ := zero?_ok hz
  exact ofValue_in v

theorem wq_part {E : Value → World → Prop} {t : TypeId} {cs : List AV} {off : Nat} {v : AV} (hp : part? K.P t cs off = .ok v) {Q : Value → World → Prop} {w : World} (hq : Q (v.ev ρ) w) :
    wq K.P K.Ev E (part t (AV.evs ρ cs).toArray off) Q w := by
  unfold part? at hp
  rw [bind_ok] at hp
  obtain ⟨b, hb, hp⟩ := hp
  simp only [part, wq_bind, wq_isAgg hb]
  split at hp
  · rename_i hb'
    rw [bind_ok] at hp
    obtain ⟨n, hn, hp⟩ := hp
    split at hp
    · rename_i hle
      cases hp
      rw [if_pos hb']
      simp only [wq_bind, wq_sizeOf hn, wq_pure]
      simp only [AV.ev] at hq
      have : (AV.evs ρ cs).toArray.extract off (off + n) = (AV.evs ρ ((cs.drop off).take n)).toArray := by
        rw [evs_map, evs_map, List.extract_toArray]
        simp [List.extract_eq_take_drop, List.map_take, List.map_drop]
      rw [this]; exact hq
    · cases hp
  · rename_i hb'
    rw [if_neg hb']
    split at hp
    · rename_i u hu
      cases hp
      have : (AV.evs ρ cs).toArray[off]? = some (v.ev ρ) := by
        rw [List.getElem?_toArray, evs_get, hu]; rfl
      rw [this]; exact hq
    · cases hp
theorem part?_in {P : Program} {t : TypeId} {cs : List AV} {off : Nat} {v : AV} (hp : part? P t cs off = .ok v) (hi : AV.Ins U cs) : v.In U := by
  unfold part? at hp
  rw [bind_ok] at hp
  obtain ⟨b, hb, hp⟩ := hp
  split at hp
  · rw [bind_ok] at hp
    obtain ⟨n, hn, hp⟩ := hp
    split at hp
    · cases hp
      exact Ins_iff.2 fun a ha => Ins_iff.1 hi _ (List.mem_of_mem_drop (List.mem_of_mem_take ha))
    · cases hp
  · split at hp
    · rename_i u hu; cases hp; exact Ins_iff.1 hi _ (List.mem_of_getElem? hu)
    · cases hp

/-! ### Variables -/
theorem wq_loadVar (R : Rel K ρ h w) (G : K.Good) {E : Value → World → Prop} {t : TypeId} {a : AA} {v : AV} (hl : loadVar? K.P K.O h t a = .ok v) {Q : Value → World → Prop} (hq : Q (v.ev ρ) w) :
    wq K.P K.Ev E (loadVar t (a.ev ρ)) Q w := by
  unfold loadVar? at hl
  rw [bind_ok] at hl
  obtain ⟨b, hb, hl⟩ := hl
  simp only [loadVar, wq_bind, wq_isAgg hb]
  split at hl
  · rename_i hb'
    simp only [bind_ok, pure_ok] at hl
    obtain ⟨n, hn, l, hl, rfl⟩ := hl
    rw [if_pos hb']
    simp only [wq_bind, wq_sizeOf hn, loadCells]
    exact loadN_sound R G hl (by simpa [AV.ev] using hq)
  · rename_i hb'
    rw [if_neg hb']
    obtain ⟨h1, h2⟩ := load1_sound R G hl
    rw [wq_load]
    exact ⟨_, h1, h2 _, hq⟩
theorem loadVar?_in (I : Ids K U h) {t : TypeId} {a : AA} {v : AV} (hl : loadVar? K.P K.O h t a = .ok v) : v.In U := by
  unfold loadVar? at hl
  rw [bind_ok] at hl
  obtain ⟨b, hb, hl⟩ := hl
  split at hl
  · simp only [bind_ok, pure_ok] at hl
    obtain ⟨n, hn, l, hl, rfl⟩ := hl
    exact loadN_in I hl
  · exact load1_in I hl

theorem wq_storeVar (R : Rel K ρ h w) (G : K.Good) {E : Value → World → Prop} {t : TypeId} {a : AA} {v : AV} {h' : AH} (hs : storeVar? K.P h t a v = .ok h') {Q : Unit → World → Prop}
    (hq : ∀ w', Rel K ρ h' w' → Keeps K.own w w' → h'.nb = h.nb → h'.lim = h.lim → Q () w') : wq K.P K.Ev E (storeVar t (a.ev ρ) (v.ev ρ)) Q w := by
  unfold storeVar? at hs
  simp only [bind_ok] at hs
  obtain ⟨cs, hc, n, hn, hs⟩ := hs
  split at hs
  · rename_i hlen
    have hcells := cells?_ev hc ρ
    simp only [storeVar, wq_bind, wq_sizeOf hn, hcells]
    have hsz : (AV.evs ρ cs).toArray.size = n := by simp [evs_length, hlen]
    rw [if_neg (by simpa using hsz)]
    exact storeN_sound G R hs hq
  · cases hs
theorem storeVar?_ids (I : Ids K U h) {t : TypeId} {a : AA} {v : AV} {h' : AH} (hs : storeVar? K.P h t a v = .ok h') (hv : v.In U) : Ids K U h' := by
  unfold storeVar? at hs
  simp only [bind_ok] at hs
  obtain ⟨cs, hc, n, hn, hs⟩ := hs
  split at hs
  · exact storeN_ids I hs (cells?_in hc hv)
  · cases hs

/-! ### Stores at open places -/
/-- One cell of an array of which nothing is known. -/
theorem row1_sound (R : Rel K ρ h w) (G : K.Good) {i : Nat} {e : TypeId} {c : IE} (hb : findB i h.hp = some (.row [] e c)) {n : Nat} {inf : TypeInfo} (hi : K.P.info? e = some inf) (hn : n < (c.ev ρ).toNat * inf.size) (v : Value) :
    (∃ u, w.cell? ⟨ρ.b i, n, none⟩ = some u) ∧ w.frozen? ⟨ρ.b i, n, none⟩ = false ∧ (∀ s, K.Ev ⟨.cell ⟨ρ.b i, n, none⟩, true, s⟩) ∧ Rel K ρ h (w.setCell ⟨ρ.b i, n, none⟩ v) ∧ Keeps K.own w (w.setCell ⟨ρ.b i, n, none⟩ v) := by
  obtain ⟨arr, ha, rest, inf', hf1, hf2, hf3⟩ := R.arr hb rfl
  obtain rfl : inf = inf' := by rw [hi] at hf2; exact Option.some.inj hf2
  have hlt : n < arr.size := by rw [hf3]; exact hn
  have hown := R.own _ _ hb rfl
  have hns : ¬ K.still (ρ.b i) n := fun x => by have := R.lent _ _ hb n x; cases this
  refine ⟨⟨arr[n], by rw [cell?_of ha]; simp [hlt]⟩, frozen?_of ha, fun s => G.wr _ _ hown hns, ?_, ?_⟩
  · refine ⟨fun j b hj => ?_, R.own', R.inj, R.bs, R.is, fun p hp => ?_, fun m hm => R.room m (by rw [size_setCell] at hm; exact hm), R.lent, fun b m hm => by rw [size_setCell]; exact R.low b m hm⟩
    · by_cases ej : j = i
      · subst ej
        rw [hb] at hj; cases hj
        refine ⟨.cells (arr.setIfInBounds n v) e (0, 0), ?_, .inl ⟨_, rfl, (arr.setIfInBounds n v).toList, inf, (List.nil_append _).symm, hi, by simpa using hf3⟩⟩
        rw [heap_setCell, if_pos rfl, ha]; rfl
      · obtain ⟨o, ho, hi'⟩ := R.blk _ _ hj
        exact ⟨o, by rw [heap_setCell, if_neg (fun x => ej (R.inj _ _ _ _ hj hb x)), ho], hi'⟩
    · obtain ⟨m1, m2, m3⟩ := R.mem p hp
      refine ⟨m1, ?_, m3⟩
      have hne : (p.1.ev ρ).block ≠ ρ.b i := fun x => m1 (x ▸ hown)
      simp only [World.cell?] at m2 ⊢
      rw [heap_setCell, if_neg hne]; exact m2
  · refine ⟨fun m hm => ?_, by rw [size_setCell]; exact Nat.le_refl _, rfl, rfl, rfl⟩
    rw [heap_setCell, if_neg (fun x => hm (by rw [x]; exact hown))]

theorem rowN_sound (G : K.Good) {E : Value → World → Prop} {i : Nat} {e : TypeId} {c : IE} (hb : findB i h.hp = some (.row [] e c)) {inf : TypeInfo} (hi : K.P.info? e = some inf) {off : Nat} :
    ∀ {l : List AV} {j : Nat} {w : World}, Rel K ρ h w → oneCells l = true → off + j + l.length ≤ (c.ev ρ).toNat * inf.size → ∀ {Q : Unit → World → Prop}, (∀ w', Rel K ρ h w' → Keeps K.own w w' → Q () w') →
      wq K.P K.Ev E (storeCells ⟨ρ.b i, off, none⟩ (AV.evs ρ l) j) Q w := by
  intro l
  induction l with
  | nil => intro j w R _ _ Q hq; exact hq w R (Keeps.refl _ _)
  | cons v l ih =>
    intro j w R ho hle Q hq
    simp only [oneCells, Bool.and_eq_true] at ho
    simp only [List.length_cons] at hle
    obtain ⟨s2, s3, s4, s5, s6⟩ := row1_sound R G hb hi (n := off + j) (by omega) (v.ev ρ)
    have ea : (⟨ρ.b i, off, none⟩ : Addr).add j = ⟨ρ.b i, off + j, none⟩ := by
      by_cases hj : j = 0
      · subst hj; rfl
      · simp [Addr.add, hj]
    simp only [AV.evs, storeCells, wq_bind]
    rw [wq_store, ea]
    exact ⟨oneCell_ev ho.1 ρ, s2, s3, s4 _, ih s5 ho.2 (by omega) fun w' r1 r2 => hq w' r1 (s6.trans r2)⟩

theorem wq_storeRow (R : Rel K ρ h w) (G : K.Good) {E : Value → World → Prop} {t : TypeId} {i : Nat} {off : IE} {v : AV} {h' : AH} (hs : storeRow? K.P K.O h t i off v = .ok h') {Q : Unit → World → Prop}
    (hq : ∀ w', Rel K ρ h w' → Keeps K.own w w' → Q () w') : wq K.P K.Ev E (storeVar t ((⟨.dyn i, off⟩ : AA).ev ρ) (v.ev ρ)) Q w ∧ h' = h := by
  unfold storeRow? at hs
  simp only [bind_ok] at hs
  obtain ⟨cs, hc, hs⟩ := hs
  split at hs
  · rename_i e c hb
    simp only [bind_ok] at hs
    obtain ⟨size, hsz, ok, hok, n, hn, hs⟩ := hs
    split at hs
    · rename_i hh
      obtain ⟨hlen, hone, rfl, h0⟩ := hh
      cases hs
      refine ⟨?_, rfl⟩
      obtain ⟨inf, hi, rfl⟩ := sizeOf?_ok hsz
      have hcells := cells?_ev hc ρ
      simp only [storeVar, wq_bind, wq_sizeOf hn, hcells]
      have hs2 : (AV.evs ρ cs).toArray.size = n := by simp [evs_length, hlen]
      rw [if_neg (by simpa using hs2)]
      have hlt : ((off.ev ρ).toNat : Int) + (Int.ofNat (cs.length - 1)) < ((c.ev ρ).toNat : Int) * (Int.ofNat inf.size) := by
        have := dec_ev R hok
        exact of_decide_eq_true this
      have hle : (off.ev ρ).toNat + 0 + cs.length ≤ (c.ev ρ).toNat * inf.size := by
        have h2 : (off.ev ρ).toNat + (cs.length - 1) < (c.ev ρ).toNat * inf.size := by
          have := hlt
          simp only [Int.ofNat_eq_natCast] at this
          exact_mod_cast this
        omega
      show wq K.P K.Ev E (storeCells ⟨ρ.b i, (off.ev ρ).toNat, none⟩ (AV.evs ρ cs).toArray.toList 0) Q w
      simp only [List.toList_toArray]
      exact rowN_sound G hb hi R hone hle hq
    · cases hs
  · cases hs

theorem wq_storeS (R : Rel K ρ h w) (G : K.Good) {E : Value → World → Prop} {t : TypeId} {a : AA} {v : AV} {h' : AH} (hs : storeS? K.P K.O h t a v = .ok h') {Q : Unit → World → Prop}
    (hq : ∀ w', Rel K ρ h' w' → Keeps K.own w w' → Q () w') : wq K.P K.Ev E (storeVar t (a.ev ρ) (v.ev ρ)) Q w := by
  unfold storeS? at hs
  split at hs
  · split at hs
    · have hh : h' = h := by
        unfold storeRow? at hs
        simp only [bind_ok] at hs
        obtain ⟨cs, hc, hs⟩ := hs
        split at hs
        · simp only [bind_ok] at hs
          obtain ⟨size, hsz, ok, hok, n, hn, hs⟩ := hs
          split at hs <;> cases hs
          rfl
        · cases hs
      subst hh
      exact (wq_storeRow R G hs hq).1
    · exact wq_storeVar R G hs fun w' a b _ _ => hq w' a b
  · exact wq_storeVar R G hs fun w' a b _ _ => hq w' a b
end
end Go.Proofs.Ytcpiafgkmakdiaa.SX
