/-
  The operations, one by one: what yields a value alone.
-/
import Derived.Test.YtmnahfonnljobaaGreatDoorSxRels
set_option linter.unusedSectionVars false
set_option linter.unusedVariables false
set_option linter.unusedSimpArgs false
namespace Go.Proofs.YtmnahfonnljobaaGreatDoor.SX

theorem bind_ok {α β : Type} {x : M α} {f : α → M β} {b : β} : (x >>= f) = .ok b ↔ ∃ a, x = .ok a ∧ f a = .ok b := by
  cases x with
  | ok a => simp [bind, Except.bind]
  | error e => simp [bind, Except.bind]
theorem pure_ok {α : Type} {a b : α} : (pure a : M α) = .ok b ↔ a = b := by simp [pure, Except.pure]
theorem ok_inj {α : Type} {a b : α} : (Except.ok a : M α) = .ok b ↔ a = b := by simp
theorem err_ok {α : Type} {e : String} {b : α} : (Except.error e : M α) = .ok b ↔ False := by simp

/-! ### Constants -/
theorem of1_ev (ρ : Env) (v : Value) : (of1 v).ev ρ = v := by
  unfold of1
  split <;> simp [AV.ev, BE.ev, IE.ev, AA.ev, BR.ev]
theorem of1_in {U : Nat → Prop} (v : Value) : (of1 v).In U := by
  unfold of1
  split <;> simp [AV.In, BE.In, IE.In, AA.In, BR.In, optIn]
theorem of1_evs (ρ : Env) (l : List Value) : AV.evs ρ (l.map of1) = l := by
  rw [evs_map, List.map_map]
  conv => rhs; rw [← List.map_id l]
  exact List.map_congr_left fun v _ => of1_ev ρ v
theorem of1_ins {U : Nat → Prop} (l : List Value) : AV.Ins U (l.map of1) := Ins_iff.2 fun a ha => by
  obtain ⟨v, _, rfl⟩ := List.mem_map.1 ha; exact of1_in v
theorem ofIface_ev (ρ : Env) (v : Value) : (ofIface v).ev ρ = v := by
  unfold ofIface
  split
  · simp [AV.ev, of1_ev]
  · exact of1_ev ρ _
theorem ofIface_in {U : Nat → Prop} (v : Value) : (ofIface v).In U := by
  unfold ofIface
  split
  · exact of1_in _
  · exact of1_in _
theorem of2_ev (ρ : Env) (v : Value) : (of2 v).ev ρ = v := by
  unfold of2
  split
  · simp [AV.ev, of1_evs]
  · simp [AV.ev, of1_evs]
  · exact ofIface_ev ρ _
theorem of2_in {U : Nat → Prop} (v : Value) : (of2 v).In U := by
  unfold of2
  split
  · exact of1_ins _
  · exact of1_ins _
  · exact ofIface_in _
theorem ofValue_ev (ρ : Env) (v : Value) : (ofValue v).ev ρ = v := by
  unfold ofValue
  split
  · simp only [AV.ev, evs_map, List.map_map]
    congr 1
    rename_i vs
    have : vs.toList.map (AV.ev ρ ∘ of2) = vs.toList := by
      conv => rhs; rw [← List.map_id vs.toList]
      exact List.map_congr_left fun v _ => of2_ev ρ v
    rw [this]
  · exact of2_ev ρ _
theorem ofValue_in {U : Nat → Prop} (v : Value) : (ofValue v).In U := by
  unfold ofValue
  split
  · exact Ins_iff.2 fun a ha => by obtain ⟨v, _, rfl⟩ := List.mem_map.1 ha; exact of2_in v
  · exact of2_in _

mutual
theorem val?_ev (ρ : Env) : ∀ (a : AV) {v : Value}, a.val? = some v → a.ev ρ = v
  | .bool b, v, h => by cases b <;> simp_all [AV.val?, AV.ev, BE.ev]
  | .int k e, v, h => by cases e <;> simp_all [AV.val?, AV.ev, IE.ev]
  | .str s, v, h => by simp_all [AV.val?, AV.ev]
  | .ptr a, v, h => by
    unfold AV.val? at h
    split at h <;> simp_all [AV.ev, AA.ev, BR.ev, IE.ev]
    all_goals first
      | (obtain ⟨rfl, rfl⟩ := h; simp_all [AV.ev, AA.ev, BR.ev, IE.ev]; done)
      | (rename_i hh; subst hh; simp [AA.ev, BR.ev, IE.ev]; done)
      | skip
  | .slice a l c, v, h => by
    unfold AV.val? at h
    split at h <;> simp_all [AV.ev, AA.ev, BR.ev, IE.ev]
    all_goals first
      | (obtain ⟨rfl, rfl, rfl⟩ := ‹_ ∧ _ ∧ _›; simp [IE.ev]; done)
      | skip
  | .map r, v, h => by cases r <;> simp_all [AV.val?, AV.ev]
  | .chan r, v, h => by cases r <;> simp_all [AV.val?, AV.ev]
  | .func f x y, v, h => by
    simp only [AV.val?] at h
    split at h
    · rename_i x' y' hx hy
      simp only [AV.ev, vals?_evs ρ x hx, vals?_evs ρ y hy]
      simpa using h
    · cases h
  | .nilFunc, v, h => by simp_all [AV.val?, AV.ev]
  | .iface t u, v, h => by
    simp only [AV.val?] at h
    split at h
    · rename_i u' hu
      simp only [AV.ev, val?_ev ρ u hu]
      simpa using h
    · cases h
  | .nilIface, v, h => by simp_all [AV.val?, AV.ev]
  | .agg x, v, h => by
    simp only [AV.val?] at h
    split at h
    · rename_i u' hu
      simp only [AV.ev, vals?_evs ρ x hu]
      simpa using h
    · cases h
  | .tuple x, v, h => by
    simp only [AV.val?] at h
    split at h
    · rename_i u' hu
      simp only [AV.ev, vals?_evs ρ x hu]
      simpa using h
    · cases h
  | .opq i, v, h => by simp [AV.val?] at h
  | .raw u, v, h => by simp_all [AV.val?, AV.ev]
theorem vals?_evs (ρ : Env) : ∀ (l : List AV) {vs : List Value}, AV.vals? l = some vs → AV.evs ρ l = vs
  | [], vs, h => by simp_all [AV.vals?, AV.evs]
  | a :: l, vs, h => by
    simp only [AV.vals?] at h
    split at h
    · rename_i v vs' hv hvs
      simp only [AV.evs, val?_ev ρ a hv, vals?_evs ρ l hvs]
      simpa using h
    · cases h
end

section
variable {K : Ctx} {ρ : Env} {h : AH} {w : World} {U : Nat → Prop}

/-! ### Sums and tests -/
theorem fold_ev (ρ : Env) (e : IE) : e.fold.ev ρ = e.ev ρ := by
  unfold IE.fold
  split <;> simp [IE.ev]
theorem fold_in {e : IE} (hi : e.In U) : e.fold.In U := by
  unfold IE.fold
  split <;> first | trivial | exact hi
theorem int_ev (R : Rel K ρ h w) (e : IE) : (K.O.int e).ev ρ = e.ev ρ := by
  unfold Orc.int
  split
  · rename_i n hn; rw [← fold_ev ρ e, hn]
  · rename_i hn
    cases hl : look IE.eqb e.fold K.O.is with
    | none => simp [fold_ev]
    | some e' =>
      obtain ⟨x, hx, he⟩ := look_some hl
      obtain rfl := IE.eqb_eq he
      simp only [Option.getD_some]
      rw [← R.is _ hx, fold_ev]
theorem int_in (I : Ids K U h) {e : IE} (hi : e.In U) : (K.O.int e).In U := by
  unfold Orc.int
  split
  · trivial
  · cases hl : look IE.eqb e.fold K.O.is with
    | none => exact fold_in hi
    | some e' =>
      obtain ⟨x, hx, _⟩ := look_some hl
      exact (I.orc.is _ hx).2
theorem bfold_ev (ρ : Env) (b : BE) : b.fold.ev ρ = b.ev ρ := by
  unfold BE.fold
  split <;> simp [BE.ev, IE.ev]
theorem bfold_in {b : BE} (hi : b.In U) : b.fold.In U := by
  unfold BE.fold
  split <;> first | trivial | exact hi
theorem bool_ev (R : Rel K ρ h w) (b : BE) : (K.O.bool b).ev ρ = b.ev ρ := by
  unfold Orc.bool
  split
  · rename_i n hn; rw [← bfold_ev ρ b, hn]
  · rename_i hn
    split
    · rename_i v hv
      obtain ⟨x, hx, he⟩ := look_some hv
      obtain rfl := BE.eqb_eq he
      rw [← bfold_ev ρ b, R.bs _ hx]; rfl
    · exact bfold_ev ρ b
theorem bool_in {b : BE} (hi : b.In U) : (K.O.bool b).In U := by
  unfold Orc.bool
  split
  · trivial
  · split
    · trivial
    · exact bfold_in hi
theorem bool_lit (R : Rel K ρ h w) {b : BE} {t : Bool} (e : K.O.bool b = .lit t) : b.ev ρ = t := by
  rw [← bool_ev R b, e]; rfl
theorem dec_ev (R : Rel K ρ h w) {b : BE} {t : Bool} (e : K.O.dec b = .ok t) : b.ev ρ = t := by
  unfold Orc.dec at e
  split at e
  · rename_i v hv; cases e; exact bool_lit R hv
  · cases e

theorem normI_ev (R : Rel K ρ h w) (v : AV) : (normI K.O v).ev ρ = v.ev ρ := by
  cases v <;> simp only [normI, AV.ev]
  rw [int_ev R]
theorem normI_in (I : Ids K U h) {v : AV} (hv : v.In U) : (normI K.O v).In U := by
  cases v <;> first | exact hv | skip
  exact int_in I hv

/-! ### Cells -/
theorem cells?_ev {v : AV} {cs : List AV} (hc : v.cells? = .ok cs) (ρ : Env) : (v.ev ρ).cells = (AV.evs ρ cs).toArray := by
  cases v <;> simp [AV.cells?] at hc <;> subst hc <;> simp [AV.ev, Value.cells, AV.evs]
theorem cells?_in {v : AV} {cs : List AV} (hc : v.cells? = .ok cs) (hi : v.In U) : AV.Ins U cs := by
  cases v <;> simp [AV.cells?] at hc <;> subst hc <;> first | exact hi | exact ⟨hi, trivial⟩

theorem zero?_ok {P : Program} {t : TypeId} {z : AV} (h : zero? P t = .ok z) : ∃ i v, P.info? t = some i ∧ i.zero = some v ∧ z = ofValue v := by
  unfold zero? at h
  split at h
  · rename_i i hi
    split at h
    · rename_i v hv; cases h; exact ⟨i, v, hi, hv, rfl⟩
    · cases h
  · cases h
theorem wq_zeroValue {P : Program} {Ev : Event → Prop} {E : Value → World → Prop} {t : TypeId} {z : AV} (hz : zero? P t = .ok z) {Q : Value → World → Prop} {w : World} : wq P Ev E (zeroValue t) Q w ↔ Q (z.ev ρ) w := by
  obtain ⟨i, v, hi, hv, rfl⟩ := zero?_ok hz
  simp [zeroValue, wq_typeInfo hi, hv, ofValue_ev]
theorem zero?_in {P : Program} {t : TypeId} {z : AV} (hz : zero? P t = .ok z) : z.In U := by
  obtain ⟨i, v, hi, hv, rfl⟩ := zero?_ok hz
  exact ofValue_in v

theorem wq_part {E : Value → World → Prop} {t : TypeId} {cs : List AV} {off : Nat} {v : AV} (hp : part? K.P t cs off = .ok v) {Q : Value → World → Prop} {w : World} (hq : Q (v.ev ρ) w) :
    wq K.P K.Ev E (part t (AV.evs ρ cs).toArray off) Q w := by
  unfold part? at hp
  rw [bind_ok] at hp
  obtain ⟨b, hb, hp⟩ := hp
  simp only [part, wq_bind, wq_isAgg hb]
  split at hp
  · rename_i hb'
    rw [bind_ok] at hp
    obtain ⟨n, hn, hp⟩ := hp
    split at hp
    · rename_i hle
      cases hp
      rw [if_pos hb']
      simp only [wq_bind, wq_sizeOf hn, wq_pure]
      simp only [AV.ev] at hq
      have : (AV.evs ρ cs).toArray.extract off (off + n) = (AV.evs ρ ((cs.drop off).take n)).toArray := by
        rw [evs_map, evs_map, List.extract_toArray]
        simp [List.extract_eq_take_drop, List.map_take, List.map_drop]
      rw [this]; exact hq
    · cases hp
  · rename_i hb'
    rw [if_neg hb']
    split at hp
    · rename_i u hu
      cases hp
      have : (AV.evs ρ cs).toArray[off]? = some (v.ev ρ) := by
        rw [List.getElem?_toArray, evs_get, hu]; rfl
      rw [this]; exact hq
    · cases hp
theorem part?_in {P : Program} {t : TypeId} {cs : List AV} {off : Nat} {v : AV} (hp : part? P t cs off = .ok v) (hi : AV.Ins U cs) : v.In U := by
  unfold part? at hp
  rw [bind_ok] at hp
  obtain ⟨b, hb, hp⟩ := hp
  split at hp
  · rw [bind_ok] at hp
    obtain ⟨n, hn, hp⟩ := hp
    split at hp
    · cases hp
      exact Ins_iff.2 fun a ha => Ins_iff.1 hi _ (List.mem_of_mem_drop (List.mem_of_mem_take ha))
    · cases hp
  · split at hp
    · rename_i u hu; cases hp; exact Ins_iff.1 hi _ (List.mem_of_getElem? hu)
    · cases hp

/-! ### Variables -/
theorem wq_loadVar (R : Rel K ρ h w) (G : K.Good) {E : Value → World → Prop} {t : TypeId} {a : AA} {v : AV} (hl : loadVar? K.P K.O h t a = .ok v) {Q : Value → World → Prop} (hq : Q (v.ev ρ) w) :
    wq K.P K.Ev E (loadVar t (a.ev ρ)) Q w := by
  unfold loadVar? at hl
  rw [bind_ok] at hl
  obtain ⟨b, hb, hl⟩ := hl
  simp only [loadVar, wq_bind, wq_isAgg hb]
  split at hl
  · rename_i hb'
    simp only [bind_ok, pure_ok] at hl
    obtain ⟨n, hn, l, hl, rfl⟩ := hl
    rw [if_pos hb']
    simp only [wq_bind, wq_sizeOf hn, loadCells]
    exact loadN_sound R G hl (by simpa [AV.ev] using hq)
  · rename_i hb'
    rw [if_neg hb']
    obtain ⟨h1, h2⟩ := load1_sound R G hl
    rw [wq_load]
    exact ⟨_, h1, h2 _, hq⟩
theorem loadVar?_in (I : Ids K U h) {t : TypeId} {a : AA} {v : AV} (hl : loadVar? K.P K.O h t a = .ok v) : v.In U := by
  unfold loadVar? at hl
  rw [bind_ok] at hl
  obtain ⟨b, hb, hl⟩ := hl
  split at hl
  · simp only [bind_ok, pure_ok] at hl
    obtain ⟨n, hn, l, hl, rfl⟩ := hl
    exact loadN_in I hl
  · exact load1_in I hl

theorem wq_storeVar (R : Rel K ρ h w) (G : K.Good) {E : Value → World → Prop} {t : TypeId} {a : AA} {v : AV} {h' : AH} (hs : storeVar? K.P h t a v = .ok h') {Q : Unit → World → Prop}
    (hq : ∀ w', Rel K ρ h' w' → Keeps K.own w w' → h'.nb = h.nb → h'.lim = h.lim → Q () w') : wq K.P K.Ev E (storeVar t (a.ev ρ) (v.ev ρ)) Q w := by
  unfold storeVar? at hs
  simp only [bind_ok] at hs
  obtain ⟨cs, hc, n, hn, hs⟩ := hs
  split at hs
  · rename_i hlen
    have hcells := cells?_ev hc ρ
    simp only [storeVar, wq_bind, wq_sizeOf hn, hcells]
    have hsz : (AV.evs ρ cs).toArray.size = n := by simp [evs_length, hlen]
    rw [if_neg (by simpa using hsz)]
    exact storeN_sound G R hs hq
  · cases hs
theorem storeVar?_ids (I : Ids K U h) {t : TypeId} {a : AA} {v : AV} {h' : AH} (hs : storeVar? K.P h t a v = .ok h') (ha : a.In U) (hv : v.In U) : Ids K U h' := by
  unfold storeVar? at hs
  simp only [bind_ok] at hs
  obtain ⟨cs, hc, n, hn, hs⟩ := hs
  split at hs
  · exact storeN_ids ha I hs (cells?_in hc hv)
  · cases hs

/-! ### Stores at open places -/
/-- One cell of an array of which nothing is known. -/
theorem row1_sound (R : Rel K ρ h w) (G : K.Good) {i : Nat} {e : TypeId} {c : IE} (hb : findB i h.hp = some (.row [] e c)) {n : Nat} {inf : TypeInfo} (hi : K.P.info? e = some inf) (hn : n < (c.ev ρ).toNat * inf.size) (v : Value) :
    (∃ u, w.cell? ⟨ρ.b i, n, none⟩ = some u) ∧ w.frozen? ⟨ρ.b i, n, none⟩ = false ∧ (∀ s, K.Ev ⟨.cell ⟨ρ.b i, n, none⟩, true, s⟩) ∧ Rel K ρ h (w.setCell ⟨ρ.b i, n, none⟩ v) ∧ Keeps K.own w (w.setCell ⟨ρ.b i, n, none⟩ v) := by
  obtain ⟨arr, ha, rest, inf', hf1, hf2, hf3⟩ := R.arr hb rfl
  obtain rfl : inf = inf' := by rw [hi] at hf2; exact Option.some.inj hf2
  have hlt : n < arr.size := by rw [hf3]; exact hn
  have hown := R.own _ _ hb rfl
  have hns : ¬ K.still (ρ.b i) n := fun x => by have := R.lent _ _ hb n x; cases this
  refine ⟨⟨arr[n], by rw [cell?_of ha]; simp [hlt]⟩, frozen?_of ha, fun s => G.wr _ _ hown hns, ?_, ?_⟩
  · refine ⟨fun j b hj => ?_, R.own', R.inj, R.bs, R.is, fun p hp => ?_, fun m hm => R.room m (by rw [size_setCell] at hm; exact hm), R.lent, fun b m hm => by rw [size_setCell]; exact R.low b m hm⟩
    · by_cases ej : j = i
      · subst ej
        rw [hb] at hj; cases hj
        refine ⟨.cells (arr.setIfInBounds n v) e (0, 0), ?_, .inl ⟨_, rfl, (arr.setIfInBounds n v).toList, inf, (List.nil_append _).symm, hi, by simpa using hf3⟩⟩
        rw [heap_setCell, if_pos rfl, ha]; rfl
      · obtain ⟨o, ho, hi'⟩ := R.blk _ _ hj
        exact ⟨o, by rw [heap_setCell, if_neg (fun x => ej (R.inj _ _ _ _ hj hb x)), ho], hi'⟩
    · obtain ⟨m1, m2, m3⟩ := R.mem p hp
      refine ⟨m1, ?_, m3⟩
      have hne : (p.1.ev ρ).block ≠ ρ.b i := fun x => m1 (x ▸ hown)
      simp only [World.cell?] at m2 ⊢
      rw [heap_setCell, if_neg hne]; exact m2
  · refine ⟨fun m hm => ?_, by rw [size_setCell]; exact Nat.le_refl _, rfl, rfl, rfl⟩
    rw [heap_setCell, if_neg (fun x => hm (by rw [x]; exact hown))]

theorem rowN_sound (G : K.Good) {E : Value → World → Prop} {i : Nat} {e : TypeId} {c : IE} (hb : findB i h.hp = some (.row [] e c)) {inf : TypeInfo} (hi : K.P.info? e = some inf) {off : Nat} :
    ∀ {l : List AV} {j : Nat} {w : World}, Rel K ρ h w → oneCells l = true → off + j + l.length ≤ (c.ev ρ).toNat * inf.size → ∀ {Q : Unit → World → Prop}, (∀ w', Rel K ρ h w' → Keeps K.own w w' → Q () w') →
      wq K.P K.Ev E (storeCells ⟨ρ.b i, off, none⟩ (AV.evs ρ l) j) Q w := by
  intro l
  induction l with
  | nil => intro j w R _ _ Q hq; exact hq w R (Keeps.refl _ _)
  | cons v l ih =>
    intro j w R ho hle Q hq
    simp only [oneCells, Bool.and_eq_true] at ho
    simp only [List.length_cons] at hle
    obtain ⟨s2, s3, s4, s5, s6⟩ := row1_sound R G hb hi (n := off + j) (by omega) (v.ev ρ)
    have ea : (⟨ρ.b i, off, none⟩ : Addr).add j = ⟨ρ.b i, off + j, none⟩ := by
      by_cases hj : j = 0
      · subst hj; rfl
      · simp [Addr.add, hj]
    simp only [AV.evs, storeCells, wq_bind]
    rw [wq_store, ea]
    exact ⟨oneCell_ev ho.1 ρ, s2, s3, s4 _, ih s5 ho.2 (by omega) fun w' r1 r2 => hq w' r1 (s6.trans r2)⟩

theorem wq_storeRow (R : Rel K ρ h w) (G : K.Good) {E : Value → World → Prop} {t : TypeId} {i : Nat} {off : IE} {v : AV} {h' : AH} (hs : storeRow? K.P K.O h t i off v = .ok h') {Q : Unit → World → Prop}
    (hq : ∀ w', Rel K ρ h w' → Keeps K.own w w' → Q () w') : wq K.P K.Ev E (storeVar t ((⟨.dyn i, off⟩ : AA).ev ρ) (v.ev ρ)) Q w ∧ h' = h := by
  unfold storeRow? at hs
  simp only [bind_ok] at hs
  obtain ⟨cs, hc, hs⟩ := hs
  split at hs
  · rename_i e c hb
    simp only [bind_ok] at hs
    obtain ⟨size, hsz, ok, hok, n, hn, hs⟩ := hs
    split at hs
    · rename_i hh
      obtain ⟨hlen, hone, rfl, h0⟩ := hh
      cases hs
      refine ⟨?_, rfl⟩
      obtain ⟨inf, hi, rfl⟩ := sizeOf?_ok hsz
      have hcells := cells?_ev hc ρ
      simp only [storeVar, wq_bind, wq_sizeOf hn, hcells]
      have hs2 : (AV.evs ρ cs).toArray.size = n := by simp [evs_length, hlen]
      rw [if_neg (by simpa using hs2)]
      have hlt : ((off.ev ρ).toNat : Int) + (Int.ofNat (cs.length - 1)) < ((c.ev ρ).toNat : Int) * (Int.ofNat inf.size) := by
        have := dec_ev R hok
        exact of_decide_eq_true this
      have hle : (off.ev ρ).toNat + 0 + cs.length ≤ (c.ev ρ).toNat * inf.size := by
        have h2 : (off.ev ρ).toNat + (cs.length - 1) < (c.ev ρ).toNat * inf.size := by
          have := hlt
          simp only [Int.ofNat_eq_natCast] at this
          exact_mod_cast this
        omega
      show wq K.P K.Ev E (storeCells ⟨ρ.b i, (off.ev ρ).toNat, none⟩ (AV.evs ρ cs).toArray.toList 0) Q w
      simp only [List.toList_toArray]
      exact rowN_sound G hb hi R hone hle hq
    · cases hs
  · cases hs

theorem wq_storeS (R : Rel K ρ h w) (G : K.Good) {E : Value → World → Prop} {t : TypeId} {a : AA} {v : AV} {h' : AH} (hs : storeS? K.P K.O h t a v = .ok h') {Q : Unit → World → Prop}
    (hq : ∀ w', Rel K ρ h' w' → Keeps K.own w w' → Q () w') : wq K.P K.Ev E (storeVar t (a.ev ρ) (v.ev ρ)) Q w := by
  unfold storeS? at hs
  split at hs
  · split at hs
    · have hh : h' = h := by
        unfold storeRow? at hs
        simp only [bind_ok] at hs
        obtain ⟨cs, hc, hs⟩ := hs
        split at hs
        · simp only [bind_ok] at hs
          obtain ⟨size, hsz, ok, hok, n, hn, hs⟩ := hs
          split at hs <;> cases hs
          rfl
        · cases hs
      subst hh
      exact (wq_storeRow R G hs hq).1
    · exact wq_storeVar R G hs fun w' a b _ _ => hq w' a b
  · exact wq_storeVar R G hs fun w' a b _ _ => hq w' a b
end
end Go.Proofs.YtmnahfonnljobaaGreatDoor.SX
/-
  The operations: comparisons, sums.
-/
set_option linter.unusedSectionVars false
set_option linter.unusedVariables false
set_option linter.unusedSimpArgs false
namespace Go.Proofs.YtmnahfonnljobaaGreatDoor.SX
section
variable {K : Ctx} {ρ : Env} {h : AH} {w : World} {U : Nat → Prop}

theorem wq_viewAt_own {E : Value → World → Prop} {n : Nat} {arr : Array Value} {e : TypeId} {f : Nat × Nat} (hn : w.heap[n]? = some (.cells arr e f)) {Q : Option (Addr × TypeId) → World → Prop} (hq : Q none w) : wq K.P K.Ev E (viewAt n) Q w := by
  simp only [viewAt, wq_bind, wq_shape]
  have : (w.shape? n).isSome = true := by simp [World.shape?, hn]
  rw [if_pos this]; exact hq

theorem wq_noView_own {E : Value → World → Prop} {a : Addr} {arr : Array Value} {e : TypeId} {f : Nat × Nat} (hn : w.heap[a.block]? = some (.cells arr e f)) {Q : Unit → World → Prop} (hq : Q () w) : wq K.P K.Ev E (noView a) Q w := by
  simp only [noView, wq_bind]
  exact wq_viewAt_own hn (by simpa using hq)

theorem wq_stringish_own {E : Value → World → Prop} {b o : Nat} {arr : Array Value} {e : TypeId} (hn : w.heap[b]? = some (.cells arr e (0, 0))) {Q : Bool → World → Prop} (hq : Q false w) : wq K.P K.Ev E (stringish ⟨b, o, none⟩) Q w := by
  simp only [stringish, wq_bind, wq_frozen, frozen?_of hn]
  simp only [Bool.false_eq_true, if_false, wq_bind, wq_shape, World.shape?, hn]
  have : w.frozen? ⟨b, arr.size, none⟩ = false := frozen?_of hn
  simp only [wq_frozen, this]
  exact hq

/-- Two places in blocks of the call's own. -/
theorem wq_sameAddr (R : Rel K ρ h w) {E : Value → World → Prop} {i j m n : Nat} {b c : ABlk} (hb : findB i h.hp = some b) (hc : findB j h.hp = some c) (mb : b.isMem = true) (mc : c.isMem = true) (hne : i ≠ j) {Q : Bool → World → Prop} (hq : Q false w) :
    wq K.P K.Ev E (sameAddr ⟨ρ.b i, m, none⟩ ⟨ρ.b j, n, none⟩) Q w := by
  obtain ⟨a1, h1, _⟩ := R.arr hb mb
  obtain ⟨a2, h2, _⟩ := R.arr hc mc
  have hne' : ¬ ρ.b i = ρ.b j := fun e => hne (R.inj i j b c hb hc e)
  have hbeq : (ρ.b i == ρ.b j) = false := by simpa using hne'
  simp only [sameAddr, wq_bind, wq_ite]
  rw [if_neg (by simp [hne'])]
  simp only [wq_frozen, wq_bind, frozen?_of h1, wq_pure]
  simp only [wq_frozen, frozen?_of h2, Bool.false_and, Bool.false_eq_true, if_false, wq_bind, wq_pure]
  refine wq_noView_own h1 ?_
  refine wq_noView_own h2 ?_
  simp only [mayBeOne, wq_bind]
  refine wq_stringish_own h1 ?_
  refine wq_stringish_own h2 ?_
  simp only [Bool.false_and, Bool.or_false, wq_bind, wq_pure, Bool.false_eq_true, if_false]
  exact hq

theorem wq_sameAddr_eq {E : Value → World → Prop} {b m n : Nat} {Q : Bool → World → Prop} (hq : Q (m == n) w) : wq K.P K.Ev E (sameAddr ⟨b, m, none⟩ ⟨b, n, none⟩) Q w := by
  simp only [sameAddr, wq_ite, wq_bind]
  rw [if_pos (by simp)]
  have : ((⟨b, m, none⟩ : Addr) == ⟨b, n, none⟩) = (m == n) := by
    by_cases e : m = n
    · subst e; simp
    · have h1 : (m == n) = false := by simpa using e
      rw [h1]
      rw [beq_eq_false_iff_ne]
      intro x; cases x; exact e rfl
  simp only [wq_pure]
  rw [this]; exact hq

theorem eqAll?_in {P : Program} {eq : TypeId → AV → AV → M BE} (hi : ∀ t x y b, eq t x y = .ok b → x.In U → y.In U → b.In U) {xs ys : List AV} (hx : AV.Ins U xs) (hy : AV.Ins U ys) : ∀ {l : List Field} {b : BE}, eqAll? P eq xs ys l = .ok b → b.In U := by
  intro l
  induction l with
  | nil => intro b he; cases he; trivial
  | cons f l ih =>
    intro b he
    unfold eqAll? at he
    split at he
    · cases he
    · rw [bind_ok] at he
      obtain ⟨a, ha, he⟩ := he
      rw [bind_ok] at he
      obtain ⟨c, hc, he⟩ := he
      rw [bind_ok] at he
      obtain ⟨r, hr, he⟩ := he
      have := hi _ _ _ _ hr (part?_in ha hx) (part?_in hc hy)
      split at he
      · exact ih he
      · cases he; trivial
      · split at he
        · cases he; exact this
        · cases he

theorem eq?_in : ∀ {d : Nat} {t : TypeId} {x y : AV} {b : BE}, eq? K.P K.O h d t x y = .ok b → x.In U → y.In U → b.In U := by
  intro d
  induction d with
  | zero => intro t x y b he; simp [eq?] at he
  | succ d ih =>
    intro t x y b he hx hy
    simp only [eq?] at he
    rw [bind_ok] at he
    obtain ⟨D, hD, he⟩ := he
    split at he
    · split at he <;> first | (rw [pure_ok] at he; subst he; trivial) | cases he
    · split at he
      · rw [pure_ok] at he; subst he; exact bool_in ⟨hx, hy⟩
      · cases he
    · rw [pure_ok] at he; subst he; trivial
    · rw [pure_ok] at he; subst he; trivial
    · rw [pure_ok] at he; subst he; trivial
    · rw [bind_ok] at he
      obtain ⟨s, hs, he⟩ := he
      split at he
      · cases he
      · split at he
        · split at he
          · rw [pure_ok] at he; subst he; trivial
          · split at he
            · split at he <;> first | (rw [pure_ok] at he; subst he; trivial) | cases he
            · cases he
        · split at he <;> first | (rw [pure_ok] at he; subst he; trivial) | cases he
        · cases he
    · rw [pure_ok] at he; subst he; trivial
    · rw [pure_ok] at he; subst he; trivial
    · rw [pure_ok] at he; subst he; trivial
    · split at he
      · split at he
        · split at he
          · exact ih he hx hy
          · cases he
        · cases he
      · rw [pure_ok] at he; subst he; trivial
    rotate_right 2
    · split at he
      · cases he
      · exact eqAll?_in (fun _ _ _ _ h1 h2 h3 => ih h1 h2 h3) hx hy he
    · cases he
    all_goals first
      | (rw [pure_ok] at he; subst he; trivial)
      | cases he

theorem wq_eqAll {E : Value → World → Prop} {D : Nat} {eq : TypeId → AV → AV → M BE} (hi : ∀ {t x y b}, eq t x y = .ok b → ∀ {Q : Bool → World → Prop}, Q (b.ev ρ) w → wq K.P K.Ev E (Op.equalIn D t (x.ev ρ) (y.ev ρ)) Q w) {xs ys : List AV} :
    ∀ {l : List Field} {b : BE}, eqAll? K.P eq xs ys l = .ok b → ∀ {Q : Option Bool × Unit → World → Prop}, Q (if b.ev ρ = true then (none, ()) else (some false, ())) w → wq K.P K.Ev E (forIn l ((none, ()) : Option Bool × Unit) fun f _ =>
                if f.name ≠ "_" then do
                  let a ← part f.type (AV.evs ρ xs).toArray f.offset
                  let b ← part f.type (AV.evs ρ ys).toArray f.offset
                  let c ← Op.equalIn D f.type a b
                  if (!c) = true then pure (ForInStep.done (some false, ())) else pure (ForInStep.yield (none, ()))
                else pure (ForInStep.yield (none, ()))) Q w := by
  intro l
  induction l with
  | nil =>
    intro b he Q hq
    cases he
    simp only [List.forIn_nil, wq_pure]
    exact hq
  | cons f l ih =>
    intro b he Q hq
    unfold eqAll? at he
    split at he
    · cases he
    · rename_i hn
      rw [bind_ok] at he
      obtain ⟨a, ha, he⟩ := he
      rw [bind_ok] at he
      obtain ⟨c, hc, he⟩ := he
      rw [bind_ok] at he
      obtain ⟨r, hr, he⟩ := he
      simp only [List.forIn_cons, wq_bind]
      rw [if_pos hn]
      simp only [wq_bind]
      refine wq_part ha (wq_part hc (hi hr ?_))
      split at he
      · simp only [BE.ev, Bool.not_true, Bool.false_eq_true, if_false, wq_pure]
        exact ih he hq
      · cases he
        simp only [BE.ev, Bool.not_false, if_true, wq_pure] at hq ⊢
        exact hq
      · split at he
        · have e := Except.ok.inj he
          rw [e]
          by_cases hb : b.ev ρ = true
          · rw [if_pos hb] at hq
            simp only [hb, Bool.not_true, Bool.false_eq_true, if_false, wq_pure, List.forIn_nil]
            exact hq
          · rw [if_neg hb] at hq
            have hb' : b.ev ρ = false := by simpa using hb
            simp only [hb', Bool.not_false, if_true, wq_pure]
            exact hq
        · cases he

theorem wq_equalIn (R : Rel K ρ h w) {E : Value → World → Prop} : ∀ {d D : Nat} {t : TypeId} {x y : AV} {b : BE}, d ≤ D → eq? K.P K.O h d t x y = .ok b → ∀ {Q : Bool → World → Prop}, Q (b.ev ρ) w →
    wq K.P K.Ev E (Op.equalIn D t (x.ev ρ) (y.ev ρ)) Q w := by
  intro d
  induction d with
  | zero => intro D t x y b _ he; simp [eq?] at he
  | succ d ih =>
    intro D t x y b hD he Q hq
    obtain ⟨D, rfl⟩ : ∃ D', D = D' + 1 := ⟨D - 1, by omega⟩
    simp only [eq?] at he
    rw [bind_ok] at he
    obtain ⟨T, hT, he⟩ := he
    have hU := under?_ok hT
    simp only [Op.equalIn, wq_bind, wq_underlying hU]
    split at he
    · -- bool
      rename_i a b'
      simp only [AV.ev]
      split at he
      · rename_i t1 t2 e1 e2
        rw [pure_ok] at he; subst he
        rw [wq_pure, bool_lit R e1, bool_lit R e2]; exact hq
      · cases he
    · -- int
      simp only [AV.ev]
      split at he
      · rename_i hk
        rw [pure_ok] at he; subst he
        rw [bool_ev R] at hq
        simp only [wq_ite, if_pos hk, wq_pure]
        exact hq
      · cases he
    · simp only [AV.ev]; rw [pure_ok] at he; subst he; rw [wq_pure]; exact hq
    · rw [pure_ok] at he; subst he
      rename_i b'
      cases b' <;> simpa [AV.ev, BE.ev] using hq
    · rw [pure_ok] at he; subst he; simpa [AV.ev, BE.ev] using hq
    · -- pointers
      rename_i e a b'
      rw [bind_ok] at he
      obtain ⟨s, hs, he⟩ := he
      split at he
      · cases he
      · rename_i hs0
        simp only [AV.ev, Option.map_some, wq_bind, wq_sizeOf hs]
        rw [if_pos hs0]
        split at he
        · rename_i i m j n h1 h2 h3 h4
          have ea : a.ev ρ = ⟨ρ.b i, m, none⟩ := by simp [AA.ev, h1, h2, BR.ev, IE.ev]
          have eb : b'.ev ρ = ⟨ρ.b j, n, none⟩ := by simp [AA.ev, h3, h4, BR.ev, IE.ev]
          rw [ea, eb]
          split at he
          · rename_i hij
            rw [pure_ok] at he; subst he
            have : i = j := by simpa using hij
            subst this
            exact wq_sameAddr_eq hq
          · rename_i hij
            have hne : i ≠ j := by simpa using hij
            split at he
            · rename_i hb hc
              split at he
              · rename_i hm
                rw [Bool.and_eq_true] at hm
                rw [pure_ok] at he; subst he
                exact wq_sameAddr R hb hc hm.1 hm.2 hne hq
              · cases he
            · cases he
        · rename_i i m j n h1 h2 h3 h4
          have ea : a.ev ρ = ⟨i, m, none⟩ := by simp [AA.ev, h1, h2, BR.ev, IE.ev]
          have eb : b'.ev ρ = ⟨j, n, none⟩ := by simp [AA.ev, h3, h4, BR.ev, IE.ev]
          rw [ea, eb]
          split at he
          · rename_i hij
            rw [pure_ok] at he; subst he
            have : i = j := by simpa using hij
            subst this
            exact wq_sameAddr_eq hq
          · cases he
        · cases he
    · rw [pure_ok] at he; subst he; simpa [AV.ev, BE.ev] using hq
    · rw [pure_ok] at he; subst he; simpa [AV.ev, BE.ev] using hq
    · rw [pure_ok] at he; subst he; simpa [AV.ev, BE.ev] using hq
    · -- two interface values
      rename_i tx vx ty vy
      simp only [AV.ev]
      split at he
      · rename_i htt
        have : tx = ty := by simpa using htt
        subst this
        split at he
        · rename_i i hi
          split at he
          · rename_i hcmp
            simp only [wq_ite, wq_bind, wq_typeInfo hi]
            rw [if_neg (by simp), if_neg (by simp [hcmp])]
            exact ih (by omega) he hq
          · cases he
        · cases he
      · rename_i htt
        have : tx ≠ ty := by simpa using htt
        rw [pure_ok] at he; subst he
        simp only [wq_ite]
        rw [if_pos this]; exact hq
    · rw [pure_ok] at he; subst he
      rename_i b' _ _ 
      cases b' <;> simpa [AV.ev, BE.ev] using hq
    · rw [pure_ok] at he; subst he; simpa [AV.ev, BE.ev] using hq
    · rw [pure_ok] at he; subst he
      rename_i b'
      cases b' <;> simpa [AV.ev, BE.ev] using hq
    · rw [pure_ok] at he; subst he; simpa [AV.ev, BE.ev] using hq
    · rw [pure_ok] at he; subst he; simpa [AV.ev, BE.ev] using hq
    · rw [pure_ok] at he; subst he; simpa [AV.ev, BE.ev] using hq
    · rw [pure_ok] at he; subst he; simpa [AV.ev, BE.ev] using hq
    · rw [pure_ok] at he; subst he
      rename_i b'
      cases b' <;> simpa [AV.ev, BE.ev] using hq
    · rw [pure_ok] at he; subst he; simpa [AV.ev, BE.ev] using hq
    · rename_i fs xs ys
      split at he
      · cases he
      · rename_i hst
        simp only [AV.ev, wq_bind, wq_program]
        rw [if_neg hst]
        simp only [wq_bind]
        rw [← Array.forIn_toList]
        refine wq_eqAll (fun h1 _ h2 => ih (by omega) h1 h2) he ?_
        by_cases hb : b.ev ρ = true
        · rw [if_pos hb]; rw [hb] at hq; exact hq
        · rw [if_neg hb]; rw [show b.ev ρ = false by simpa using hb] at hq; exact hq
    · cases he

theorem wq_equal (R : Rel K ρ h w) {E : Value → World → Prop} {t : TypeId} {x y : AV} {b : BE} (he : eq? K.P K.O h 8 t x y = .ok b) {Q : Bool → World → Prop} (hq : Q (b.ev ρ) w) :
    wq K.P K.Ev E (Op.equal t (x.ev ρ) (y.ev ρ)) Q w := wq_equalIn R (by unfold Op.maxDepth; omega) he hq

theorem notB_ev {b c : BE} (hn : notB b = .ok c) (ρ : Env) : c.ev ρ = !b.ev ρ := by
  cases b with
  | lit t => simp [notB] at hn; subst hn; rfl
  | var i => simp [notB] at hn
  | cmp o a b =>
    cases o <;> simp [notB] at hn <;> subst hn <;> simp only [BE.ev, icmp]
    · simp [bne]
    · simp [bne]
    · simp [decide_not.symm, Int.not_lt]
    · simp [decide_not.symm, Int.not_le]
    · simp [decide_not.symm, Int.not_lt]
    · simp [decide_not.symm, Int.not_le]
theorem notB_in {b c : BE} (hn : notB b = .ok c) (hi : b.In U) : c.In U := by
  cases b with
  | lit t => simp [notB] at hn; subst hn; trivial
  | var i => simp [notB] at hn
  | cmp o a b => cases o <;> simp [notB] at hn <;> subst hn <;> exact hi

end
end Go.Proofs.YtmnahfonnljobaaGreatDoor.SX
/-
  The operations: sums, places, parts.
-/
set_option linter.unusedSectionVars false
set_option linter.unusedVariables false
set_option linter.unusedSimpArgs false
namespace Go.Proofs.YtmnahfonnljobaaGreatDoor.SX
section
variable {K : Ctx} {ρ : Env} {h : AH} {w : World} {U : Nat → Prop}

theorem binOp_int (o : BinOp) (t : TypeId) (k : IntKind) (a b : Int) (ho : intArith? o = true) : binOp o t (.int k a) (.int k b) = pure (.int k (iop o k a b)) := by
  cases o <;> simp_all [intArith?] <;> simp [binOp, iop, Op.intArith, Op.intBits]

theorem binOp_cmp (o : BinOp) (t : TypeId) (k : IntKind) (a b : Int) (ho : cmp? o = true) : binOp o t (.int k a) (.int k b) = pure (.bool (icmp o a b)) := by
  cases o <;> simp_all [cmp?] <;> simp [binOp, icmp, Op.intCmp]

theorem binOp_eql (t : TypeId) {x y : Value} (hx : (∃ k n, x = .int k n) → ¬ ∃ k n, y = .int k n) (hs : (∃ s, x = .string s) → ¬ ∃ s, y = .string s) (hf : ∀ k n, x ≠ .float k n) (hc : ∀ k n m, x ≠ .complex k n m) :
    binOp .eql t x y = (do pure (.bool (← Op.equal t x y))) := by
  cases x <;> first | exact absurd rfl (hf _ _) | exact absurd rfl (hc _ _ _) | skip
  all_goals cases y <;> first | rfl | exact absurd ⟨_, _, rfl⟩ (hx ⟨_, _, rfl⟩) | exact absurd ⟨_, rfl⟩ (hs ⟨_, rfl⟩)
theorem binOp_neq (t : TypeId) {x y : Value} (hx : (∃ k n, x = .int k n) → ¬ ∃ k n, y = .int k n) (hs : (∃ s, x = .string s) → ¬ ∃ s, y = .string s) (hf : ∀ k n, x ≠ .float k n) (hc : ∀ k n m, x ≠ .complex k n m) :
    binOp .neq t x y = (do pure (.bool (!(← Op.equal t x y)))) := by
  cases x <;> first | exact absurd rfl (hf _ _) | exact absurd rfl (hc _ _ _) | skip
  all_goals cases y <;> first | rfl | exact absurd ⟨_, _, rfl⟩ (hx ⟨_, _, rfl⟩) | exact absurd ⟨_, rfl⟩ (hs ⟨_, rfl⟩)

/-- What 'eq?' bears stands in no float, and a raw value in none of its cases. -/
theorem eq?_shape {d : Nat} {t : TypeId} {x y : AV} {b : BE} (he : eq? K.P K.O h d t x y = .ok b) : (∀ k n, x.ev ρ ≠ .float k n) ∧ (∀ k n m, x.ev ρ ≠ .complex k n m) ∧ ((∃ s, x = .str s) ∨ ∀ s, x.ev ρ ≠ .string s) ∧ ((∃ k e, x = .int k e) ∨ ∀ k n, x.ev ρ ≠ .int k n) ∧
    ((∃ s, x = .str s) → ∃ s, y = .str s) ∧ ((∃ k e, x = .int k e) → ∃ k e, y = .int k e) := by
  cases d with
  | zero => simp [eq?] at he
  | succ d =>
    simp only [eq?] at he
    rw [bind_ok] at he
    obtain ⟨T, hT, he⟩ := he
    split at he <;> first
      | (cases he; done)
      | (refine ⟨?_, ?_, ?_, ?_, ?_, ?_⟩ <;> simp [AV.ev])

theorem stringOp_eql (a b : ByteArray) : Op.stringOp .eql a b = pure (.bool (a.toList == b.toList)) := rfl
theorem stringOp_neq (a b : ByteArray) : Op.stringOp .neq a b = pure (.bool !(a.toList == b.toList)) := rfl

theorem dec_neg (R : Rel K ρ h w) {b : IE} {t1 : Bool} (ht1 : K.O.dec (.cmp .lss b (.lit 0)) = .ok t1) (hn : ¬ t1 = true) : ¬ b.ev ρ < 0 := by
  have h1 : decide (b.ev ρ < 0) = t1 := dec_ev R ht1
  intro hc
  exact hn (h1 ▸ decide_eq_true hc)
theorem dec_zero (R : Rel K ρ h w) {b : IE} {t1 : Bool} (ht1 : K.O.dec (.cmp .eql b (.lit 0)) = .ok t1) (hn : ¬ t1 = true) : ¬ b.ev ρ = 0 := by
  have h1 : (b.ev ρ == 0) = t1 := dec_ev R ht1
  intro hc
  exact hn (h1 ▸ by simp [hc])

theorem wq_binOp (R : Rel K ρ h w) {E : Value → World → Prop} {o : BinOp} {t : TypeId} {x y v : AV} (he : binOp? K.P K.O h o t x y = .ok v) {Q : Value → World → Prop} (hq : Q (v.ev ρ) w) :
    wq K.P K.Ev E (binOp o t (x.ev ρ) (y.ev ρ)) Q w := by
  unfold binOp? at he
  split at he
  · -- integers
    rename_i k a k' b
    simp only [AV.ev]
    split at he
    · -- shl
      simp only [bind_ok] at he
      obtain ⟨t1, ht1, he⟩ := he
      split at he
      · cases he
      · rename_i hn
        rw [pure_ok] at he; subst he
        simp only [AV.ev, int_ev R] at hq
        simp only [binOp, Op.shift, wq_ite]
        rw [if_neg (dec_neg R ht1 hn)]
        exact hq
    · simp only [bind_ok] at he
      obtain ⟨t1, ht1, he⟩ := he
      split at he
      · cases he
      · rename_i hn
        rw [pure_ok] at he; subst he
        simp only [AV.ev, int_ev R] at hq
        simp only [binOp, Op.shift, wq_ite]
        rw [if_neg (dec_neg R ht1 hn)]
        exact hq
    · split at he
      · rename_i hk; subst hk
        simp only [bind_ok] at he
        obtain ⟨t1, ht1, he⟩ := he
        split at he
        · cases he
        · rename_i hn
          rw [pure_ok] at he; subst he
          simp only [AV.ev, int_ev R] at hq
          simp only [binOp, Op.intDiv, wq_ite]
          rw [if_neg (by simp), if_neg (dec_zero R ht1 hn)]
          exact hq
      · cases he
    · split at he
      · rename_i hk; subst hk
        simp only [bind_ok] at he
        obtain ⟨t1, ht1, he⟩ := he
        split at he
        · cases he
        · rename_i hn
          rw [pure_ok] at he; subst he
          simp only [AV.ev, int_ev R] at hq
          simp only [binOp, Op.intDiv, wq_ite]
          rw [if_neg (by simp), if_neg (dec_zero R ht1 hn)]
          exact hq
      · cases he
    · split at he
      · rename_i hk; subst hk
        split at he
        · rename_i ho
          rw [pure_ok] at he; subst he
          simp only [AV.ev, int_ev R] at hq
          rw [binOp_int _ _ _ _ _ ho]; exact hq
        · split at he
          · rename_i ho
            rw [pure_ok] at he; subst he
            simp only [AV.ev] at hq
            rw [bool_ev R] at hq
            rw [binOp_cmp _ _ _ _ _ ho]; exact hq
          · cases he
      · cases he
  · -- strings
    rename_i a b
    simp only [AV.ev]
    split at he
    · rw [pure_ok] at he; subst he; simp only [binOp]; rw [stringOp_eql]; exact hq
    · rw [pure_ok] at he; subst he; simp only [binOp]; rw [stringOp_neq]; exact hq
    · split at he
      · rename_i hle
        rw [pure_ok] at he; subst he
        simp only [binOp, Op.stringOp, wq_ite]
        rw [if_neg (by simp only [IntKind.max, IntKind.bits, IntKind.signed]; simp; omega)]
        exact hq
      · cases he
    · cases he
  · rename_i hni hns
    split at he
    · simp only [bind_ok, pure_ok] at he
      obtain ⟨b, hb, rfl⟩ := he
      obtain ⟨s1, s2, s3, s4, s5, s6⟩ := eq?_shape (ρ := ρ) hb
      have hs : (∃ s, x.ev ρ = .string s) → ¬ ∃ s, y.ev ρ = .string s := by
        rintro ⟨s, e⟩
        rcases s3 with ⟨s', rfl⟩ | h3
        · obtain ⟨s2, rfl⟩ := s5 ⟨_, rfl⟩
          exact absurd rfl (hns _ _ rfl)
        · exact absurd e (h3 _)
      have hi : (∃ k n, x.ev ρ = .int k n) → ¬ ∃ k n, y.ev ρ = .int k n := by
        rintro ⟨k, n, e⟩
        rcases s4 with ⟨k', e', rfl⟩ | h4
        · obtain ⟨k2, e2, rfl⟩ := s6 ⟨_, _, rfl⟩
          exact absurd rfl (hni _ _ _ _ rfl)
        · exact absurd e (h4 _ _)
      rw [binOp_eql t hi hs s1 s2]
      simp only [wq_bind, wq_pure]
      exact wq_equal R hb hq
    · simp only [bind_ok, pure_ok] at he
      obtain ⟨b, hb, c, hc, rfl⟩ := he
      obtain ⟨s1, s2, s3, s4, s5, s6⟩ := eq?_shape (ρ := ρ) hb
      have hs : (∃ s, x.ev ρ = .string s) → ¬ ∃ s, y.ev ρ = .string s := by
        rintro ⟨s, e⟩
        rcases s3 with ⟨s', rfl⟩ | h3
        · obtain ⟨s2, rfl⟩ := s5 ⟨_, rfl⟩
          exact absurd rfl (hns _ _ rfl)
        · exact absurd e (h3 _)
      have hi : (∃ k n, x.ev ρ = .int k n) → ¬ ∃ k n, y.ev ρ = .int k n := by
        rintro ⟨k, n, e⟩
        rcases s4 with ⟨k', e', rfl⟩ | h4
        · obtain ⟨k2, e2, rfl⟩ := s6 ⟨_, _, rfl⟩
          exact absurd rfl (hni _ _ _ _ rfl)
        · exact absurd e (h4 _ _)
      rw [binOp_neq t hi hs s1 s2]
      simp only [wq_bind, wq_pure]
      refine wq_equal R hb ?_
      simp only [AV.ev, notB_ev hc] at hq
      exact hq
    · cases he

theorem binOp?_in (I : Ids K U h) {o : BinOp} {t : TypeId} {x y v : AV} (he : binOp? K.P K.O h o t x y = .ok v) (hx : x.In U) (hy : y.In U) : v.In U := by
  unfold binOp? at he
  split at he
  · split at he
    all_goals try (split at he)
    all_goals try (simp only [bind_ok] at he; obtain ⟨t1, ht1, he⟩ := he)
    all_goals try (split at he)
    all_goals try (split at he)
    all_goals first
      | (cases he; done)
      | (rw [pure_ok] at he; subst he; first | exact int_in I ⟨hx, hy⟩ | exact bool_in ⟨hx, hy⟩)
  · split at he
    all_goals try (split at he)
    all_goals first
      | (cases he; done)
      | (rw [pure_ok] at he; subst he; trivial)
  · split at he
    · simp only [bind_ok, pure_ok] at he
      obtain ⟨b, hb, rfl⟩ := he
      exact eq?_in hb hx hy
    · simp only [bind_ok, pure_ok] at he
      obtain ⟨b, hb, c, hc, rfl⟩ := he
      exact notB_in hc (eq?_in hb hx hy)
    · cases he

/-! ### The guard on nil interface values -/
theorem eqGuard_none {op : BinOp} (ho : ¬ (op = .eql ∨ op = .neq)) (t : TypeId) (x y : Operand) (a b : Value) : eqGuard op t x y a b = pure () := by
  cases op <;> simp_all [eqGuard]

theorem wq_eqGuardIn_nil {E : Value → World → Prop} {t : TypeId} {ms : Array (String × TypeId)} (hm : K.P.underlying t = some (.interface ms)) (hemp : ms.isEmpty = true) {Q : Bool → World → Prop} (hq : Q false w) :
    wq K.P K.Ev E (Op.eqGuardIn Op.maxDepth t .nilIface .nilIface) Q w := by
  obtain ⟨d, hd⟩ : ∃ d, Op.maxDepth = d + 1 := ⟨9999, rfl⟩
  rw [hd]
  simp only [Op.eqGuardIn, wq_bind, wq_underlying hm, wq_pure, hemp, Bool.not_true]
  exact hq

theorem eqGuard_const {op : BinOp} (ho : op = .eql ∨ op = .neq) (t : TypeId) (x y : Operand) (hc : (isConst? x || isConst? y) = true) : eqGuard op t x y .nilIface .nilIface = pure () := by
  rcases ho with rfl | rfl <;> cases x <;> cases y <;> first
    | rfl
    | exact absurd (show false = true from hc) (by simp)

theorem eqGuard_nil {op : BinOp} (ho : op = .eql ∨ op = .neq) (t : TypeId) (x y : Operand) (hc : ¬ (isConst? x || isConst? y) = true) : eqGuard op t x y .nilIface .nilIface = (do
    if ← Op.eqGuardIn Op.maxDepth t .nilIface .nilIface then unsupported (.noEntry "binop/eql: two nil values of an interface type with methods, neither of them the literal nil")) := by
  rcases ho with rfl | rfl <;> cases x <;> cases y <;> first
    | rfl
    | exact absurd rfl hc

theorem eqGuard_agg {op : BinOp} (ho : op = .eql ∨ op = .neq) (t : TypeId) (x y : Operand) (a b : Array Value) : eqGuard op t x y (.agg a) (.agg b) = (do
    if !(← program).eqGuardType (← program).depth t then return
    if ← Op.eqGuardIn Op.maxDepth t (.agg a) (.agg b) then unsupported (.noEntry "binop/eql: two nil values of an interface type with methods, in a part of a struct or an array")) := by
  rcases ho with rfl | rfl <;> rfl

theorem eqGuard_other {op : BinOp} (t : TypeId) (x y : Operand) {a b : Value} (h1 : a = .nilIface → b ≠ .nilIface) (h2 : (∃ c, a = .agg c) → ¬ ∃ c, b = .agg c) : eqGuard op t x y a b = pure () := by
  cases op <;> first
    | rfl
    | (cases a <;> first
        | rfl
        | (cases b <;> first
            | rfl
            | exact absurd rfl (h1 rfl)
            | exact absurd ⟨_, rfl⟩ (h2 ⟨_, rfl⟩)))

theorem wq_eqGuard {E : Value → World → Prop} {op : BinOp} {t : TypeId} {x y : Operand} {a b : AV} (he : eqGuard? K.P op t x y a b = .ok ()) {Q : Unit → World → Prop} (hq : Q () w) :
    wq K.P K.Ev E (eqGuard op t x y (a.ev ρ) (b.ev ρ)) Q w := by
  by_cases ho : op = .eql ∨ op = .neq
  · have hh : (match a, b with
        | .nilIface, .nilIface => if isConst? x || isConst? y then (Except.ok () : M Unit) else
          match K.P.underlying t with
          | some (.interface ms) => if ms.isEmpty then .ok () else .error " two nil values"
          | _ => .error " two nil values"
        | .agg _, .agg _ => if K.P.eqGuardType K.P.depth t then .error " structs with interface values" else .ok ()
        | .raw _, _ => .error " raw"
        | _, .raw _ => .error " raw"
        | .opq _, _ => .error " veiled"
        | _, .opq _ => .error " veiled"
        | _, _ => .ok ()) = .ok () := by rcases ho with rfl | rfl <;> exact he
    split at hh
    · -- two nils
      simp only [AV.ev]
      split at hh
      · rename_i hc
        rw [eqGuard_const ho t x y hc]; exact hq
      · rename_i hc
        rw [eqGuard_nil ho t x y hc]
        split at hh
        · rename_i ms hm
          split at hh
          · rename_i hemp
            simp only [wq_bind]
            exact wq_eqGuardIn_nil hm hemp (by simpa using hq)
          · cases hh
        · cases hh
    · simp only [AV.ev]
      rw [eqGuard_agg ho]
      split at hh
      · cases hh
      · rename_i hg
        simp only [wq_bind, wq_program, wq_ite]
        rw [if_pos (by simpa using hg)]
        exact hq
    all_goals try (cases hh; done)
    rename_i m1 m2 n1 n2 n3 n4
    rw [eqGuard_other]
    · exact hq
    · intro h1 h2
      cases a <;> simp only [AV.ev] at h1 <;> first
        | (cases h1; done)
        | skip
      all_goals cases b <;> simp only [AV.ev] at h2 <;> first
        | (cases h2; done)
        | simp_all
    · rintro ⟨c, h1⟩ ⟨c', h2⟩
      cases a <;> simp only [AV.ev] at h1 <;> first
        | (cases h1; done)
        | skip
      all_goals cases b <;> simp only [AV.ev] at h2 <;> first
        | (cases h2; done)
        | simp_all
  · rw [eqGuard_none ho]; exact hq
end
end Go.Proofs.YtmnahfonnljobaaGreatDoor.SX
/-
  The operations: places, parts, cuts.
-/
set_option linter.unusedSectionVars false
set_option linter.unusedVariables false
set_option linter.unusedSimpArgs false
namespace Go.Proofs.YtmnahfonnljobaaGreatDoor.SX
section
variable {K : Ctx} {ρ : Env} {h : AH} {w : World} {U : Nat → Prop}

theorem sureAddr?_ok {x : AV} {a : AA} (hs : sureAddr? x = .ok a) : x = .ptr (some a) := by
  unfold sureAddr? at hs
  split at hs
  · cases hs; rfl
  · cases hs

theorem wq_fieldAt {E : Value → World → Prop} {s : TypeId} {x v : AV} {i : Nat} (he : fieldAddr? K.P s x i = .ok v) {Q : Value → World → Prop} (hq : Q (v.ev ρ) w) : wq K.P K.Ev E (Instr.fieldAt s (x.ev ρ) i) Q w := by
  unfold fieldAddr? at he
  simp only [bind_ok] at he
  obtain ⟨D, hD, he⟩ := he
  split at he
  · rename_i fs
    split at he
    · rename_i f hf
      simp only [bind_ok] at he
      obtain ⟨a, ha, n, hn, he⟩ := he
      split at he
      · cases he
      · rename_i hn0
        rw [pure_ok] at he; subst he
        obtain rfl := sureAddr?_ok ha
        simp only [Instr.fieldAt, wq_bind, wq_underlying (under?_ok hD), hf]
        simp only [AV.ev, Option.map_some, Instr.sureAddr, wq_pure, fieldPlace, wq_bind, wq_sizeOf hn]
        rw [if_neg hn0]
        simp only [AV.ev, Option.map_some, AA.add_ev] at hq
        exact hq
    · cases he
  · cases he
theorem fieldAddr?_in {P : Program} {s : TypeId} {x v : AV} {i : Nat} (he : fieldAddr? P s x i = .ok v) (hx : x.In U) : v.In U := by
  unfold fieldAddr? at he
  simp only [bind_ok] at he
  obtain ⟨D, hD, he⟩ := he
  split at he
  · split at he
    · simp only [bind_ok] at he
      obtain ⟨a, ha, n, hn, he⟩ := he
      split at he
      · cases he
      · rw [pure_ok] at he; subst he
        obtain rfl := sureAddr?_ok ha
        exact AA.add_in _ hx
    · cases he
  · cases he

theorem timesN_ev (ρ : Env) (a : IE) (n : Nat) : (timesN a n).ev ρ = (((a.ev ρ).toNat * n : Nat) : Int) := by
  unfold timesN
  split
  · simp [IE.ev]
  · split
    · rename_i h1; subst h1; simp [IE.ev]
    · simp [IE.ev]
theorem timesN_in {a : IE} (n : Nat) (hi : a.In U) : (timesN a n).In U := by
  unfold timesN
  split
  · trivial
  · split
    · exact hi
    · exact ⟨hi, trivial⟩
theorem AA.at_ev (ρ : Env) (a : AA) (i : IE) (size : Nat) : (a.at i size).ev ρ = (a.ev ρ).add ((i.ev ρ).toNat * size) := by
  have ht := timesN_ev ρ i size
  unfold AA.at
  split
  · rename_i n hn
    rw [hn] at ht
    simp only [IE.ev] at ht
    rw [AA.add_ev]
    have : n = (i.ev ρ).toNat * size := Int.ofNat.inj ht
    rw [this]
  · rename_i hn
    split
    · rename_i h0
      simp only [AA.ev, h0, IE.ev, ht, Addr.add]
      simp only [Int.toNat_natCast, Int.toNat_zero, Nat.zero_add]
      split
      · rename_i hz; rw [hz]
      · rfl
    · simp only [AA.ev, IE.ev, ht, Addr.add]
      have : ((((a.off.ev ρ).toNat : Int) + (((i.ev ρ).toNat * size : Nat) : Int))).toNat = (a.off.ev ρ).toNat + (i.ev ρ).toNat * size := by omega
      rw [this]
      split
      · rename_i hz; rw [hz]; simp
      · rfl
theorem AA.at_in {a : AA} {i : IE} (size : Nat) (ha : a.In U) (hi : i.In U) : (a.at i size).In U := by
  unfold AA.at
  split
  · exact AA.add_in _ ha
  · split
    · exact ⟨ha.1, timesN_in _ hi⟩
    · exact ⟨ha.1, ha.2, timesN_in _ hi⟩

theorem index?_ok (R : Rel K ρ h w) {i len : IE} (he : index? K.O i len = .ok ()) : 0 ≤ i.ev ρ ∧ i.ev ρ < len.ev ρ := by
  unfold index? at he
  simp only [bind_ok] at he
  obtain ⟨t1, h1, he⟩ := he
  split at he
  · rename_i e1
    simp only [bind_ok] at he
    obtain ⟨t2, h2, he⟩ := he
    split at he
    · rename_i e2
      subst e1; subst e2
      have a1 : decide (0 ≤ i.ev ρ) = true := dec_ev R h1
      have a2 : decide (i.ev ρ < len.ev ρ) = true := dec_ev R h2
      exact ⟨of_decide_eq_true a1, of_decide_eq_true a2⟩
    · cases he
  · cases he

theorem lenIE_ev (ρ : Env) (len : IE) {n : Int} (hn : 0 ≤ n) (hl : n < (match len with | .lit n => IE.lit n | l => .tn l).ev ρ) : n < ((len.ev ρ).toNat : Int) := by
  cases len <;> simp only [IE.ev] at hl ⊢ <;> omega

theorem wq_indexAt (R : Rel K ρ h w) {E : Value → World → Prop} {t : TypeId} {x i v : AV} (he : indexAddr? K.P K.O t x i = .ok v) {Q : Value → World → Prop} (hq : Q (v.ev ρ) w) : wq K.P K.Ev E (Instr.indexAt t (x.ev ρ) (i.ev ρ)) Q w := by
  unfold indexAddr? at he
  split at he
  · rename_i k i
    simp only [bind_ok] at he
    obtain ⟨D, hD, he⟩ := he
    split at he
    · rename_i elem a len cap
      simp only [bind_ok, pure_ok] at he
      obtain ⟨_, hix, n, hn, rfl⟩ := he
      obtain ⟨h1, h2⟩ := index?_ok R hix
      have h3 := lenIE_ev ρ len h1 h2
      simp only [AV.ev, Option.map_some, AA.at_ev] at hq
      simp only [Instr.indexAt, AV.ev, Option.map_some, asIntOf, wq_bind, wq_pure, wq_underlying (under?_ok hD)]
      simp only [wq_ite, wq_bind, wq_sizeOf hn, wq_pure]
      rw [if_pos ⟨h1, h3⟩]
      exact hq
    · rename_i m elem a
      simp only [bind_ok, pure_ok] at he
      obtain ⟨_, hix, n, hn, rfl⟩ := he
      obtain ⟨h1, h2⟩ := index?_ok R hix
      have h3 : i.ev ρ < (m : Int) := h2
      simp only [AV.ev, Option.map_some, AA.at_ev] at hq
      simp only [Instr.indexAt, AV.ev, Option.map_some, asIntOf, wq_bind, wq_pure, wq_underlying (under?_ok hD), Instr.sureAddr]
      simp only [wq_ite, wq_bind, wq_sizeOf hn, wq_pure]
      rw [if_pos ⟨h1, h3⟩]
      exact hq
    · cases he
  · cases he
theorem indexAddr?_in {P : Program} {O : Orc} {t : TypeId} {x i v : AV} (he : indexAddr? P O t x i = .ok v) (hx : x.In U) (hi : i.In U) : v.In U := by
  unfold indexAddr? at he
  split at he
  · simp only [bind_ok] at he
    obtain ⟨D, hD, he⟩ := he
    split at he
    · simp only [bind_ok, pure_ok] at he
      obtain ⟨_, hix, n, hn, rfl⟩ := he
      exact AA.at_in _ hx.1 hi
    · simp only [bind_ok, pure_ok] at he
      obtain ⟨_, hix, n, hn, rfl⟩ := he
      exact AA.at_in _ hx hi
    · cases he
  · cases he

theorem wq_field {E : Value → World → Prop} {t : TypeId} {x v : AV} {i : Nat} (he : field? K.P t x i = .ok v) {Q : Value → World → Prop} (hq : Q (v.ev ρ) w) : wq K.P K.Ev E (Instr.field t (x.ev ρ) i) Q w := by
  unfold field? at he
  simp only [bind_ok] at he
  obtain ⟨D, hD, he⟩ := he
  split at he
  · rename_i fs cs
    split at he
    · rename_i f hf
      simp only [Instr.field, wq_bind, wq_underlying (under?_ok hD), hf, AV.ev, asAgg, wq_pure]
      exact wq_part he hq
    · cases he
  · cases he
theorem field?_in {P : Program} {t : TypeId} {x v : AV} {i : Nat} (he : field? P t x i = .ok v) (hx : x.In U) : v.In U := by
  unfold field? at he
  simp only [bind_ok] at he
  obtain ⟨D, hD, he⟩ := he
  split at he
  · split at he
    · exact part?_in he hx
    · cases he
  · cases he

theorem wq_index {E : Value → World → Prop} {t : TypeId} {x i v : AV} (he : indexOp? K.P t x i = .ok v) {Q : Value → World → Prop} (hq : Q (v.ev ρ) w) : wq K.P K.Ev E (Instr.index t (x.ev ρ) (i.ev ρ)) Q w := by
  unfold indexOp? at he
  simp only [bind_ok] at he
  obtain ⟨D, hD, he⟩ := he
  split at he
  · rename_i n elem cs k i
    split at he
    · rename_i hlt
      simp only [bind_ok] at he
      obtain ⟨s, hs, he⟩ := he
      simp only [Instr.index, AV.ev, IE.ev, asIntOf, wq_bind, wq_pure, wq_underlying (under?_ok hD)]
      simp only [wq_ite, wq_bind, wq_sizeOf hs]
      rw [if_pos ⟨by simp, by simpa using hlt⟩]
      have : (Int.ofNat i).toNat = i := rfl
      rw [this]
      exact wq_part he hq
    · cases he
  · rename_i s k i
    split at he
    · rename_i b hb
      rw [pure_ok] at he; subst he
      simp only [Instr.index, AV.ev, IE.ev, asIntOf, wq_bind, wq_pure, wq_underlying (under?_ok hD)]
      have hlt : i < s.data.toList.length := (List.getElem?_eq_some_iff.1 hb).1
      have : (if 0 ≤ Int.ofNat i then s[(Int.ofNat i).toNat]? else none) = some b := by
        rw [if_pos (by simp)]
        have e : (Int.ofNat i).toNat = i := rfl
        rw [e]
        have hsz : i < s.size := by simpa using hlt
        rw [getElem?_pos s i hsz]
        have h2 := (List.getElem?_eq_some_iff.1 hb).2
        rw [← h2]; rfl
      rw [this]
      simp only [AV.ev, IE.ev] at hq
      exact hq
    · cases he
  · cases he
theorem indexOp?_in {P : Program} {t : TypeId} {x i v : AV} (he : indexOp? P t x i = .ok v) (hx : x.In U) : v.In U := by
  unfold indexOp? at he
  simp only [bind_ok] at he
  obtain ⟨D, hD, he⟩ := he
  split at he
  · split at he
    · simp only [bind_ok] at he
      obtain ⟨s, hs, he⟩ := he
      exact part?_in he hx
    · cases he
  · split at he
    · rw [pure_ok] at he; subst he; trivial
    · cases he
  · cases he

/-! ### Cuts -/
theorem litNat?_ok {e : IE} {n : Nat} (h : litNat? e = .ok n) : e = .lit (.ofNat n) := by
  unfold litNat? at h
  split at h
  · cases h; rfl
  · cases h

theorem bound?_ok {v : Option AV} {d n : Nat} (h : bound? v d = .ok n) : (v = none ∧ n = d) ∨ ∃ k, v = some (.int k (.lit (.ofNat n))) := by
  unfold bound? at h
  split at h
  · cases h; exact .inl ⟨rfl, rfl⟩
  · obtain rfl := litNat?_ok h; exact .inr ⟨_, rfl⟩
  · cases h

theorem wq_sliceBound {E : Value → World → Prop} {k : IntKind} {n y : Nat} {code : BoundsCode} (hle : n ≤ y) {Q : Nat → World → Prop} (hq : Q n w) : wq K.P K.Ev E (Instr.sliceBound (.int k (Int.ofNat n)) y code) Q w := by
  simp only [Instr.sliceBound, asIntOf, wq_bind, wq_pure, wq_ite]
  rw [if_pos ⟨by simp, by simpa using hle⟩]
  exact hq

theorem high?_ok {hi mx : Option AV} {len n : Nat} (h : high? hi mx len = .ok n) : bound? hi len = .ok n ∧ (hi = none → mx = none) := by
  unfold high? at h
  split at h
  · cases h
  · rename_i hn
    refine ⟨h, fun e => ?_⟩
    subst e
    cases mx with
    | none => rfl
    | some v => exact absurd rfl (hn _ rfl)

theorem wq_sliceBounds {E : Value → World → Prop} {isS : Bool} {len cap : Nat} {lo hi mx : Option AV} {l h m : Nat} (he : bounds? len cap lo hi mx = .ok (l, h, m)) {Q : Nat × Nat × Nat → World → Prop} (hq : Q (l, h, m) w) :
    wq K.P K.Ev E (Instr.sliceBounds isS len cap (lo.map (AV.ev ρ)) (hi.map (AV.ev ρ)) (mx.map (AV.ev ρ))) Q w := by
  unfold bounds? at he
  simp only [bind_ok] at he
  obtain ⟨m', hm, h', hh, l', hl, he⟩ := he
  split at he
  · rename_i hle
    rw [pure_ok] at he
    cases he
    obtain ⟨hmc, hhm, hlh⟩ := hle
    obtain ⟨hh2, hhm0⟩ := high?_ok hh
    have low : ∀ {code : BoundsCode}, (match lo.map (AV.ev ρ) with | some v => wq K.P K.Ev E (Instr.sliceBound v h code) (fun a w => Q (a, h, m) w) w | none => Q (0, h, m) w) := by
      intro code
      rcases bound?_ok hl with ⟨rfl, rfl⟩ | ⟨k, rfl⟩
      · exact hq
      · simp only [Option.map_some, AV.ev, IE.ev]
        exact wq_sliceBound hlh hq
    rcases bound?_ok hm with ⟨rfl, rfl⟩ | ⟨k, rfl⟩
    · rcases bound?_ok hh2 with ⟨rfl, rfl⟩ | ⟨k, rfl⟩
      · simp only [Instr.sliceBounds, Option.map_none, wq_bind, wq_pure]
        have := low (code := if (none : Option Value).isSome then .slice3C else .sliceB)
        revert this
        cases lo <;> first | exact id | (simp only [Option.map_some, Option.map_none, wq_bind, wq_pure]; exact id)
      · simp only [Instr.sliceBounds, Option.map_none, Option.map_some, AV.ev, IE.ev, wq_bind, wq_pure]
        refine wq_sliceBound hhm ?_
        have := low (code := if (none : Option Value).isSome then .slice3C else .sliceB)
        revert this
        cases lo <;> first | exact id | (simp only [Option.map_some, Option.map_none, wq_bind, wq_pure]; exact id)
    · cases hi with
      | none => exact absurd (hhm0 rfl) (by simp)
      | some hv =>
        rcases bound?_ok hh2 with ⟨e, _⟩ | ⟨k2, e⟩
        · cases e
        · cases e
          simp only [Instr.sliceBounds, Option.map_some, AV.ev, IE.ev, wq_bind, wq_pure]
          refine wq_sliceBound hmc ?_
          refine wq_sliceBound hhm ?_
          have := low (code := if (some (Value.int k (Int.ofNat m))).isSome then .slice3C else .sliceB)
          revert this
          cases lo <;> first | exact id | (simp only [Option.map_some, Option.map_none, wq_bind, wq_pure]; exact id)
  · cases he

theorem map_add_ev (ρ : Env) (a : Option AA) (n : Nat) : (a.map (·.add n)).map (AA.ev ρ) = (a.map (AA.ev ρ)).map (·.add n) := by
  cases a with
  | none => rfl
  | some a => simp [AA.add_ev]

theorem wq_sliceAt {E : Value → World → Prop} {t : TypeId} {x v : AV} {lo hi mx : Option AV} (he : sliceOp? K.P t x lo hi mx = .ok v) {Q : Value → World → Prop} (hq : Q (v.ev ρ) w) :
    wq K.P K.Ev E (Instr.sliceAt t (x.ev ρ) (lo.map (AV.ev ρ)) (hi.map (AV.ev ρ)) (mx.map (AV.ev ρ))) Q w := by
  unfold sliceOp? at he
  simp only [bind_ok] at he
  obtain ⟨D, hD, he⟩ := he
  have hU := under?_ok hD
  split at he
  · rename_i elem a len cap
    simp only [bind_ok] at he
    obtain ⟨n, hn, ⟨l, h', m⟩, hb, s, hs, he⟩ := he
    obtain rfl := litNat?_ok hn
    rw [pure_ok] at he; subst he
    simp only [Instr.sliceAt, wq_bind, wq_underlying hU, Instr.slice, AV.ev, IE.ev]
    refine wq_sliceBounds hb ?_
    simp only [wq_bind, wq_sizeOf hs, wq_pure]
    simp only [AV.ev, IE.ev] at hq
    have e1 : (Int.ofNat (h' - l)).toNat = h' - l := rfl
    have e2 : (Int.ofNat (m - l)).toNat = m - l := rfl
    rw [e1, e2] at hq
    by_cases hml : m = l
    · rw [if_pos hml] at hq ⊢; exact hq
    · rw [if_neg hml] at hq ⊢; rw [map_add_ev] at hq; exact hq
  · rename_i s
    split at he
    · cases he
    · simp only [bind_ok] at he
      obtain ⟨⟨l, h', m⟩, hb, he⟩ := he
      rw [pure_ok] at he; subst he
      simp only [Instr.sliceAt, wq_bind, wq_underlying hU, Instr.slice, AV.ev, Option.map_none]
      simp only [Option.isSome_none, Bool.false_eq_true, if_false]
      have := wq_sliceBounds (K := K) (ρ := ρ) (w := w) (E := E) (isS := false) hb (Q := fun r w => Q (.string (s.extract r.1 r.2.1)) w) hq
      rw [wq_bind]
      exact this
  · rename_i n elem a
    simp only [bind_ok] at he
    obtain ⟨⟨l, h', m⟩, hb, s, hs, he⟩ := he
    rw [pure_ok] at he; subst he
    simp only [Instr.sliceAt, wq_bind, wq_underlying hU, AV.ev, Option.map_some, Instr.sureAddr, wq_pure]
    refine wq_sliceBounds hb ?_
    simp only [wq_bind, wq_sizeOf hs, wq_pure]
    simp only [AV.ev, IE.ev] at hq
    have e1 : (Int.ofNat (h' - l)).toNat = h' - l := rfl
    have e2 : (Int.ofNat (m - l)).toNat = m - l := rfl
    rw [e1, e2] at hq
    by_cases hml : m = l
    · rw [if_pos hml] at hq ⊢; exact hq
    · rw [if_neg hml] at hq ⊢; simp only [Option.map_some, AA.add_ev] at hq; exact hq
  · cases he
theorem sliceOp?_in {P : Program} {t : TypeId} {x v : AV} {lo hi mx : Option AV} (he : sliceOp? P t x lo hi mx = .ok v) (hx : x.In U) : v.In U := by
  unfold sliceOp? at he
  simp only [bind_ok] at he
  obtain ⟨D, hD, he⟩ := he
  split at he
  · rename_i elem a len cap
    simp only [bind_ok] at he
    obtain ⟨n, hn, ⟨l, h', m⟩, hb, s, hs, he⟩ := he
    rw [pure_ok] at he; subst he
    refine ⟨?_, trivial, trivial⟩
    split
    · exact hx.1
    · cases a with
      | none => trivial
      | some a => exact AA.add_in _ hx.1
  · split at he
    · cases he
    · simp only [bind_ok] at he
      obtain ⟨⟨l, h', m⟩, hb, he⟩ := he
      rw [pure_ok] at he; subst he; trivial
  · rename_i n elem a
    simp only [bind_ok] at he
    obtain ⟨⟨l, h', m⟩, hb, s, hs, he⟩ := he
    rw [pure_ok] at he; subst he
    refine ⟨?_, trivial, trivial⟩
    split
    · exact hx
    · exact AA.add_in _ hx
  · cases he
end
end Go.Proofs.YtmnahfonnljobaaGreatDoor.SX
