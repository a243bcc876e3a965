/-
  The operations: places, parts, cuts.
-/
import Derived.Test.YtcpiafgkmakdiaaSxOp3
set_option linter.unusedSectionVars false
set_option linter.unusedVariables false
set_option linter.unusedSimpArgs false
namespace Go.Proofs.Ytcpiafgkmakdiaa.SX
section
variable {K : Ctx} {ρ : Env} {h : AH} {w : World} {U : Nat → Prop}

theorem sureAddr?_ok {x : AV} {a : AA} (hs : sureAddr? x = .ok a) : x = .ptr (some a) := by
  unfold sureAddr? at hs
  split at hs
  · cases hs; rfl
  · cases hs

theorem wq_fieldAt {E : Value → World → Prop} {s : TypeId} {x v : AV} {i : Nat} (he : fieldAddr? K.P s x i = .ok v) {Q : Value → World → Prop} (hq : Q (v.ev ρ) w) : wq K.P K.Ev E (Instr.fieldAt s (x.ev ρ) i) Q w := by
  unfold fieldAddr? at he
  simp only [bind_ok] at he
  obtain ⟨D, hD, he⟩ := he
  split at he
  · rename_i fs
    split at he
    · rename_i f hf
      simp only [bind_ok] at he
      obtain ⟨a, ha, n, hn, he⟩ := he
      split at he
      · cases he
      · rename_i hn0
        rw [pure_ok] at he; subst he
        obtain rfl := sureAddr?_ok ha
        simp only [Instr.fieldAt, wq_bind, wq_underlying (under?_ok hD), hf]
        simp only [AV.ev, Option.map_some, Instr.sureAddr, wq_pure, fieldPlace, wq_bind, wq_sizeOf hn]
        rw [if_neg hn0]
        simp only [AV.ev, Option.map_some, AA.add_ev] at hq
        exact hq
    · cases he
  · cases he
theorem fieldAddr?_in {P : Program} {s : TypeId} {x v : AV} {i : Nat} (he : fieldAddr? P s x i = .ok v) (hx : x.In U) : v.In U := by
  unfold fieldAddr? at he
  simp only [bind_ok] at he
  obtain ⟨D, hD, he⟩ := he
  split at he
  · split at he
    · simp only [bind_ok] at he
      obtain ⟨a, ha, n, hn, he⟩ := he
      split at he
      · cases he
      · rw [pure_ok] at he; subst he
        obtain rfl := sureAddr?_ok ha
        exact AA.add_in _ hx
    · cases he
  · cases he

theorem timesN_ev (ρ : Env) (a : IE) (n : Nat) : (timesN a n).ev ρ = (((a.ev ρ).toNat * n : Nat) : Int) := by
  unfold timesN
  split
  · simp [IE.ev]
  · split
    · rename_i h1; subst h1; simp [IE.ev]
    · simp [IE.ev]
theorem timesN_in {a : IE} (n : Nat) (hi : a.In U) : (timesN a n).In U := by
  unfold timesN
  split
  · trivial
  · split
    · exact hi
    · exact ⟨hi, trivial⟩
theorem AA.at_ev (ρ : Env) (a : AA) (i : IE) (size : Nat) : (a.at i size).ev ρ = (a.ev ρ).add ((i.ev ρ).toNat * size) := by
  have ht := timesN_ev ρ i size
  unfold AA.at
  split
  · rename_i n hn
    rw [hn] at ht
    simp only [IE.ev] at ht
    rw [AA.add_ev]
    have : n = (i.ev ρ).toNat * size := Int.ofNat.inj ht
    rw [this]
  · rename_i hn
    split
    · rename_i h0
      simp only [AA.ev, h0, IE.ev, ht, Addr.add]
      simp only [Int.toNat_natCast, Int.toNat_zero, Nat.zero_add]
      split
      · rename_i hz; rw [hz]
      · rfl
    · simp only [AA.ev, IE.ev, ht, Addr.add]
      have : ((((a.off.ev ρ).toNat : Int) + (((i.ev ρ).toNat * size : Nat) : Int))).toNat = (a.off.ev ρ).toNat + (i.ev ρ).toNat * size := by omega
      rw [this]
      split
      · rename_i hz; rw [hz]; simp
      · rfl
theorem AA.at_in {a : AA} {i : IE} (size : Nat) (ha : a.In U) (hi : i.In U) : (a.at i size).In U := by
  unfold AA.at
  split
  · exact AA.add_in _ ha
  · split
    · exact ⟨ha.1, timesN_in _ hi⟩
    · exact ⟨ha.1, ha.2, timesN_in _ hi⟩

theorem index?_ok (R : Rel K ρ h w) {i len : IE} (he : index? K.O i len = .ok ()) : 0 ≤ i.ev ρ ∧ i.ev ρ < len.ev ρ := by
  unfold index? at he
  simp only [bind_ok] at he
  obtain ⟨t1, h1, he⟩ := he
  split at he
  · rename_i e1
    simp only [bind_ok] at he
    obtain ⟨t2, h2, he⟩ := he
    split at he
    · rename_i e2
      subst e1; subst e2
      have a1 : decide (0 ≤ i.ev ρ) = true := dec_ev R h1
      have a2 : decide (i.ev ρ < len.ev ρ) = true := dec_ev R h2
      exact ⟨of_decide_eq_true a1, of_decide_eq_true a2⟩
    · cases he
  · cases he

theorem lenIE_ev (ρ : Env) (len : IE) {n : Int} (hn : 0 ≤ n) (hl : n < (match len with | .lit n => IE.lit n | l => .tn l).ev ρ) : n < ((len.ev ρ).toNat : Int) := by
  cases len <;> simp only [IE.ev] at hl ⊢ <;> omega

theorem wq_indexAt (R : Rel K ρ h w) {E : Value → World → Prop} {t : TypeId} {x i v : AV} (he : indexAddr? K.P K.O t x i = .ok v) {Q : Value → World → Prop} (hq : Q (v.ev ρ) w) : wq K.P K.Ev E (Instr.indexAt t (x.ev ρ) (i.ev ρ)) Q w := by
  unfold indexAddr? at he
  split at he
  · rename_i k i
    simp only [bind_ok] at he
    obtain ⟨D, hD, he⟩ := he
    split at he
    · rename_i elem a len cap
      simp only [bind_ok, pure_ok] at he
      obtain ⟨_, hix, n, hn, rfl⟩ := he
      obtain ⟨h1, h2⟩ := index?_ok R hix
      have h3 := lenIE_ev ρ len h1 h2
      simp only [AV.ev, Option.map_some, AA.at_ev] at hq
      simp only [Instr.indexAt, AV.ev, Option.map_some, asIntOf, wq_bind, wq_pure, wq_underlying (under?_ok hD)]
      simp only [wq_ite, wq_bind, wq_sizeOf hn, wq_pure]
      rw [if_pos ⟨h1, h3⟩]
      exact hq
    · rename_i m elem a
      simp only [bind_ok, pure_ok] at he
      obtain ⟨_, hix, n, hn, rfl⟩ := he
      obtain ⟨h1, h2⟩ := index?_ok R hix
      have h3 : i.ev ρ < (m : Int) := h2
      simp only [AV.ev, Option.map_some, AA.at_ev] at hq
      simp only [Instr.indexAt, AV.ev, Option.map_some, asIntOf, wq_bind, wq_pure, wq_underlying (under?_ok hD), Instr.sureAddr]
      simp only [wq_ite, wq_bind, wq_sizeOf hn, wq_pure]
      rw [if_pos ⟨h1, h3⟩]
      exact hq
    · cases he
  · cases he
theorem indexAddr?_in {P : Program} {O : Orc} {t : TypeId} {x i v : AV} (he : indexAddr? P O t x i = .ok v) (hx : x.In U) (hi : i.In U) : v.In U := by
  unfold indexAddr? at he
  split at he
  · simp only [bind_ok] at he
    obtain ⟨D, hD, he⟩ := he
    split at he
    · simp only [bind_ok, pure_ok] at he
      obtain ⟨_, hix, n, hn, rfl⟩ := he
      exact AA.at_in _ hx.1 hi
    · simp only [bind_ok, pure_ok] at he
      obtain ⟨_, hix, n, hn, rfl⟩ := he
      exact AA.at_in _ hx hi
    · cases he
  · cases he

theorem wq_field {E : Value → World → Prop} {t : TypeId} {x v : AV} {i : Nat} (he : field? K.P t x i = .ok v) {Q : Value → World → Prop} (hq : Q (v.ev ρ) w) : wq K.P K.Ev E (Instr.field t (x.ev ρ) i) Q w := by
  unfold field? at he
  simp only [bind_ok] at he
  obtain ⟨D, hD, he⟩ := he
  split at he
  · rename_i fs cs
    split at he
    · rename_i f hf
      simp only [Instr.field, wq_bind, wq_underlying (under?_ok hD), hf, AV.ev, asAgg, wq_pure]
      exact wq_part he hq
    · cases he
  · cases he
theorem field?_in {P : Program} {t : TypeId} {x v : AV} {i : Nat} (he : field? P t x i = .ok v) (hx : x.In U) : v.In U := by
  unfold field? at he
  simp only [bind_ok] at he
  obtain ⟨D, hD, he⟩ := he
  split at he
  · split at he
    · exact part?_in he hx
    · cases he
  · cases he

theorem wq_index {E : Value → World → Prop} {t : TypeId} {x i v : AV} (he : indexOp? K.P t x i = .ok v) {Q : Value → World → Prop} (hq : Q (v.ev ρ) w) : wq K.P K.Ev E (Instr.index t (x.ev ρ) (i.ev ρ)) Q w := by
  unfold indexOp? at he
  simp only [bind_ok] at he
  obtain ⟨D, hD, he⟩ := he
  split at he
  · rename_i n elem cs k i
    split at he
    · rename_i hlt
      simp only [bind_ok] at he
      obtain ⟨s, hs, he⟩ := he
      simp only [Instr.index, AV.ev, IE.ev, asIntOf, wq_bind, wq_pure, wq_underlying (under?_ok hD)]
      simp only [wq_ite, wq_bind, wq_sizeOf hs]
      rw [if_pos ⟨by simp, by simpa using hlt⟩]
      have : (Int.ofNat i).toNat = i := rfl
      rw [this]
      exact wq_part he hq
    · cases he
  · rename_i s k i
    split at he
    · rename_i b hb
      rw [pure_ok] at he; subst he
      simp only [Instr.index, AV.ev, IE.ev, asIntOf, wq_bind, wq_pure, wq_underlying (under?_ok hD)]
      have hlt : i < s.data.toList.length := (List.getElem?_eq_some_iff.1 hb).1
      have : (if 0 ≤ Int.ofNat i then s[(Int.ofNat i).toNat]? else none) = some b := by
        rw [if_pos (by simp)]
        have e : (Int.ofNat i).toNat = i := rfl
        rw [e]
        have hsz : i < s.size := by simpa using hlt
        rw [getElem?_pos s i hsz]
        have h2 := (List.getElem?_eq_some_iff.1 hb).2
        rw [← h2]; rfl
      rw [this]
      simp only [AV.ev, IE.ev] at hq
      exact hq
    · cases he
  · cases he
theorem indexOp?_in {P : Program} {t : TypeId} {x i v : AV} (he : indexOp? P t x i = .ok v) (hx : x.In U) : v.In U := by
  unfold indexOp? at he
  simp only [bind_ok] at he
  obtain ⟨D, hD, he⟩ := he
  split at he
  · split at he
    · simp only [bind_ok] at he
      obtain ⟨s, hs, he⟩ := he
      exact part?_in he hx
    · cases he
  · split at he
    · rw [pure_ok] at he; subst he; trivial
    · cases he
  · cases he

/-! ### Cuts -/
theorem litNat?_ok {e : IE} {n : Nat} (h : litNat? e = .ok n) : e = .lit (.ofNat n) := by
  unfold litNat? at h
  split at h
  · cases h; rfl
  · cases h

theorem bound?_ok {v : Option AV} {d n : Nat} (h : bound? v d = .ok n) : (v = none ∧ n = d) ∨ ∃ k, v = some (.int k (.lit (.ofNat n))) := by
  unfold bound? at h
  split at h
  · cases h; exact .inl ⟨rfl, rfl⟩
  · obtain rfl := litNat?_ok h; exact .inr ⟨_, rfl⟩
  · cases h

theorem wq_sliceBound {E : Value → World → Prop} {k : IntKind} {n y : Nat} {code : BoundsCode} (hle : n ≤ y) {Q : Nat → World → Prop} (hq : Q n w) : wq K.P K.Ev E (Instr.sliceBound (.int k (Int.ofNat n)) y code) Q w := by
  simp only [Instr.sliceBound, asIntOf, wq_bind, wq_pure, wq_ite]
  rw [if_pos ⟨by simp, by simpa using hle⟩]
  exact hq

theorem high?_ok {hi mx : Option AV} {len n : Nat} (h : high? hi mx len = .ok n) : bound? hi len = .ok n ∧ (hi = none → mx = none) := by
  unfold high? at h
  split at h
  · cases h
  · rename_i hn
    refine ⟨h, fun e => ?_⟩
    subst e
    cases mx with
    | none => rfl
    | some v => exact absurd rfl (hn _ rfl)

theorem wq_sliceBounds {E : Value → World → Prop} {isS : Bool} {len cap : Nat} {lo hi mx : Option AV} {l h m : Nat} (he : bounds? len cap lo hi mx = .ok (l, h, m)) {Q : Nat × Nat × Nat → World → Prop} (hq : Q (l, h, m) w) :
    wq K.P K.Ev E (Instr.sliceBounds isS len cap (lo.map (AV.ev ρ)) (hi.map (AV.ev ρ)) (mx.map (AV.ev ρ))) Q w := by
  unfold bounds? at he
  simp only [bind_ok] at he
  obtain ⟨m', hm, h', hh, l', hl, he⟩ := he
  split at he
  · rename_i hle
    rw [pure_ok] at he
    cases he
    obtain ⟨hmc, hhm, hlh⟩ := hle
    obtain ⟨hh2, hhm0⟩ := high?_ok hh
    have low : ∀ {code : BoundsCode}, (match lo.map (AV.ev ρ) with | some v => wq K.P K.Ev E (Instr.sliceBound v h code) (fun a w => Q (a, h, m) w) w | none => Q (0, h, m) w) := by
      intro code
      rcases bound?_ok hl with ⟨rfl, rfl⟩ | ⟨k, rfl⟩
      · exact hq
      · simp only [Option.map_some, AV.ev, IE.ev]
        exact wq_sliceBound hlh hq
    rcases bound?_ok hm with ⟨rfl, rfl⟩ | ⟨k, rfl⟩
    · rcases bound?_ok hh2 with ⟨rfl, rfl⟩ | ⟨k, rfl⟩
      · simp only [Instr.sliceBounds, Option.map_none, wq_bind, wq_pure]
        have := low (code := if (none : Option Value).isSome then .slice3C else .sliceB)
        revert this
        cases lo <;> first | exact id | (simp only [Option.map_some, Option.map_none, wq_bind, wq_pure]; exact id)
      · simp only [Instr.sliceBounds, Option.map_none, Option.map_some, AV.ev, IE.ev, wq_bind, wq_pure]
        refine wq_sliceBound hhm ?_
        have := low (code := if (none : Option Value).isSome then .slice3C else .sliceB)
        revert this
        cases lo <;> first | exact id | (simp only [Option.map_some, Option.map_none, wq_bind, wq_pure]; exact id)
    · cases hi with
      | none => exact absurd (hhm0 rfl) (by simp)
      | some hv =>
        rcases bound?_ok hh2 with ⟨e, _⟩ | ⟨k2, e⟩
        · cases e
        · cases e
          simp only [Instr.sliceBounds, Option.map_some, AV.ev, IE.ev, wq_bind, wq_pure]
          refine wq_sliceBound hmc ?_
          refine wq_sliceBound hhm ?_
          have := low (code := if (some (Value.int k (Int.ofNat m))).isSome then .slice3C else .sliceB)
          revert this
          cases lo <;> first | exact id | (simp only [Option.map_some, Option.map_none, wq_bind, wq_pure]; exact id)
  · cases he

theorem map_add_ev (ρ : Env) (a : Option AA) (n : Nat) : (a.map (·.add n)).map (AA.ev ρ) = (a.map (AA.ev ρ)).map (·.add n) := by
  cases a with
  | none => rfl
  | some a => simp [AA.add_ev]

theorem wq_sliceAt {E : Value → World → Prop} {t : TypeId} {x v : AV} {lo hi mx : Option AV} (he : sliceOp? K.P t x lo hi mx = .ok v) {Q : Value → World → Prop} (hq : Q (v.ev ρ) w) :
    wq K.P K.Ev E (Instr.sliceAt t (x.ev ρ) (lo.map (AV.ev ρ)) (hi.map (AV.ev ρ)) (mx.map (AV.ev ρ))) Q w := by
  unfold sliceOp? at he
  simp only [bind_ok] at he
  obtain ⟨D, hD, he⟩ := he
  have hU := under?_ok hD
  split at he
  · rename_i elem a len cap
    simp only [bind_ok] at he
    obtain ⟨n, hn, ⟨l, h', m⟩, hb, s, hs, he⟩ := he
    obtain rfl := litNat?_ok hn
    rw [pure_ok] at he; subst he
    simp only [Instr.sliceAt, wq_bind, wq_underlying hU, Instr.slice, AV.ev, IE.ev]
    refine wq_sliceBounds hb ?_
    simp only [wq_bind, wq_sizeOf hs, wq_pure]
    simp only [AV.ev, IE.ev] at hq
    have e1 : (Int.ofNat (h' - l)).toNat = h' - l := rfl
    have e2 : (Int.ofNat (m - l)).toNat = m - l := rfl
    rw [e1, e2] at hq
    by_cases hml : m = l
    · rw [if_pos hml] at hq ⊢; exact hq
    · rw [if_neg hml] at hq ⊢; rw [map_add_ev] at hq; exact hq
  · rename_i s
    split at he
    · cases he
    · simp only [bind_ok] at he
      obtain ⟨⟨l, h', m⟩, hb, he⟩ := he
      rw [pure_ok] at he; subst he
      simp only [Instr.sliceAt, wq_bind, wq_underlying hU, Instr.slice, AV.ev, Option.map_none]
      simp only [Option.isSome_none, Bool.false_eq_true, if_false]
      have := wq_sliceBounds (K := K) (ρ := ρ) (w := w) (E := E) (isS := false) hb (Q := fun r w => Q (.string (s.extract r.1 r.2.1)) w) hq
      rw [wq_bind]
      exact this
  · rename_i n elem a
    simp only [bind_ok] at he
    obtain ⟨⟨l, h', m⟩, hb, s, hs, he⟩ := he
    rw [pure_ok] at he; subst he
    simp only [Instr.sliceAt, wq_bind, wq_underlying hU, AV.ev, Option.map_some, Instr.sureAddr, wq_pure]
    refine wq_sliceBounds hb ?_
    simp only [wq_bind, wq_sizeOf hs, wq_pure]
    simp only [AV.ev, IE.ev] at hq
    have e1 : (Int.ofNat (h' - l)).toNat = h' - l := rfl
    have e2 : (Int.ofNat (m - l)).toNat = m - l := rfl
    rw [e1, e2] at hq
    by_cases hml : m = l
    · rw [if_pos hml] at hq ⊢; exact hq
    · rw [if_neg hml] at hq ⊢; simp only [Option.map_some, AA.add_ev] at hq; exact hq
  · cases he
theorem sliceOp?_in {P : Program} {t : TypeId} {x v : AV} {lo hi mx : Option AV} (he : sliceOp? P t x lo hi mx = .ok v) (hx : x.In U) : v.In U := by
  unfold sliceOp? at he
  simp only [bind_ok] at he
  obtain ⟨D, hD, he⟩ := he
  split at he
  · rename_i elem a len cap
    simp only [bind_ok] at he
    obtain ⟨n, hn, ⟨l, h', m⟩, hb, s, hs, he⟩ := he
    rw [pure_ok] at he; subst he
    refine ⟨?_, trivial, trivial⟩
    split
    · exact hx.1
    · cases a with
      | none => trivial
      | some a => exact AA.add_in _ hx.1
  · split at he
    · cases he
    · simp only [bind_ok] at he
      obtain ⟨⟨l, h', m⟩, hb, he⟩ := he
      rw [pure_ok] at he; subst he; trivial
  · rename_i n elem a
    simp only [bind_ok] at he
    obtain ⟨⟨l, h', m⟩, hb, s, hs, he⟩ := he
    rw [pure_ok] at he; subst he
    refine ⟨?_, trivial, trivial⟩
    split
    · exact hx
    · exact AA.add_in _ hx
  · cases he
end
end Go.Proofs.Ytcpiafgkmakdiaa.SX
