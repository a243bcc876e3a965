/-
  A symbolic run of the model, proved sound, and its use on the given code: a text of its parts. Conditions: none.
-/
import Derived.Test.YtojifefdokekpaaDoorSxAB
import Derived.Laws.Append
import Derived.IntWalk
set_option linter.unusedSectionVars false
set_option linter.unusedVariables false
set_option linter.unusedSimpArgs false
namespace Go.Proofs.YtojifefdokekpaaDoor.SX
section
variable {K : Ctx} {ρ : Env} {h : AH} {w : World} {U : Nat → Prop}
theorem sureAddr?_ok {x : AV} {a : AA} (hs : sureAddr? x = .ok a) : x = .ptr (some a) := by
  unfold sureAddr? at hs
  split at hs
  · cases hs; rfl
  · cases hs
theorem wq_fieldAt {E : Value → World → Prop} {s : TypeId} {x v : AV} {i : Nat} (he : fieldAddr? K.P s x i = .ok v) {Q : Value → World → Prop} (hq : Q (v.ev ρ) w) : wq K.P K.Ev E (Instr.fieldAt s (x.ev ρ) i) Q w := by
  unfold fieldAddr? at he
  simp only [bind_ok] at he
  obtain ⟨D, hD, he⟩ := he
  split at he
  · rename_i fs
    split at he
    · rename_i f hf
      simp only [bind_ok] at he
      obtain ⟨a, ha, n, hn, he⟩ := he
      split at he
      · cases he
      · rename_i hn0
        rw [pure_ok] at he; subst he
        obtain rfl := sureAddr?_ok ha
        simp only [Instr.fieldAt, wq_bind, wq_underlying (under?_ok hD), hf]
        simp only [AV.ev, Option.map_some, Instr.sureAddr, wq_pure, fieldPlace, wq_bind, wq_sizeOf hn]
        rw [if_neg hn0]
        simp only [AV.ev, Option.map_some, AA.add_ev] at hq
        exact hq
    · cases he
  · cases he
theorem fieldAddr?_in {P : Program} {s : TypeId} {x v : AV} {i : Nat} (he : fieldAddr? P s x i = .ok v) (hx : x.In U) : v.In U := by
  unfold fieldAddr? at he
  simp only [bind_ok] at he
  obtain ⟨D, hD, he⟩ := he
  split at he
  · split at he
    · simp only [bind_ok] at he
      obtain ⟨a, ha, n, hn, he⟩ := he
      split at he
      · cases he
      · rw [pure_ok] at he; subst he
        obtain rfl := sureAddr?_ok ha
        exact AA.add_in _ hx
    · cases he
  · cases he
theorem timesN_ev (ρ : Env) (a : IE) (n : Nat) : (timesN a n).ev ρ = (((a.ev ρ).toNat * n : Nat) : Int) := by
  unfold timesN
  split
  · simp [IE.ev]
  · split
    · rename_i h1; subst h1; simp [IE.ev]
    · simp [IE.ev]
theorem timesN_in {a : IE} (n : Nat) (hi : a.In U) : (timesN a n).In U := by
  unfold timesN
  split
  · trivial
  · split
    · exact hi
    · exact ⟨hi, trivial⟩
theorem AA.at_ev (ρ : Env) (a : AA) (i : IE) (size : Nat) : (a.at i size).ev ρ = (a.ev ρ).add ((i.ev ρ).toNat * size) := by
  have ht := timesN_ev ρ i size
  unfold AA.at
  split
  · rename_i n hn
    rw [hn] at ht
    simp only [IE.ev] at ht
    rw [AA.add_ev]
    have : n = (i.ev ρ).toNat * size := Int.ofNat.inj ht
    rw [this]
  · rename_i hn
    split
    · rename_i h0
      simp only [AA.ev, h0, IE.ev, ht, Addr.add]
      simp only [Int.toNat_natCast, Int.toNat_zero, Nat.zero_add]
      split
      · rename_i hz; rw [hz]
      · rfl
    · simp only [AA.ev, IE.ev, ht, Addr.add]
      have : ((((a.off.ev ρ).toNat : Int) + (((i.ev ρ).toNat * size : Nat) : Int))).toNat = (a.off.ev ρ).toNat + (i.ev ρ).toNat * size := by omega
      rw [this]
      split
      · rename_i hz; rw [hz]; simp
      · rfl
theorem AA.at_in {a : AA} {i : IE} (size : Nat) (ha : a.In U) (hi : i.In U) : (a.at i size).In U := by
  unfold AA.at
  split
  · exact AA.add_in _ ha
  · split
    · exact ⟨ha.1, timesN_in _ hi⟩
    · exact ⟨ha.1, ha.2, timesN_in _ hi⟩
theorem index?_ok (R : Rel K ρ h w) {i len : IE} (he : index? K.O i len = .ok ()) : 0 ≤ i.ev ρ ∧ i.ev ρ < len.ev ρ := by
  unfold index? at he
  simp only [bind_ok] at he
  obtain ⟨t1, h1, he⟩ := he
  split at he
  · rename_i e1
    simp only [bind_ok] at he
    obtain ⟨t2, h2, he⟩ := he
    split at he
    · rename_i e2
      subst e1; subst e2
      have a1 : decide (0 ≤ i.ev ρ) = true := dec_ev R h1
      have a2 : decide (i.ev ρ < len.ev ρ) = true := dec_ev R h2
      exact ⟨of_decide_eq_true a1, of_decide_eq_true a2⟩
    · cases he
  · cases he
theorem lenIE_ev (ρ : Env) (len : IE) {n : Int} (hn : 0 ≤ n) (hl : n < (match len with | .lit n => IE.lit n | l => .tn l).ev ρ) : n < ((len.ev ρ).toNat : Int) := by
  cases len <;> simp only [IE.ev] at hl ⊢ <;> omega
theorem wq_indexAt (R : Rel K ρ h w) {E : Value → World → Prop} {t : TypeId} {x i v : AV} (he : indexAddr? K.P K.O t x i = .ok v) {Q : Value → World → Prop} (hq : Q (v.ev ρ) w) : wq K.P K.Ev E (Instr.indexAt t (x.ev ρ) (i.ev ρ)) Q w := by
  unfold indexAddr? at he
  split at he
  · rename_i k i
    simp only [bind_ok] at he
    obtain ⟨D, hD, he⟩ := he
    split at he
    · rename_i elem a len cap
      simp only [bind_ok, pure_ok] at he
      obtain ⟨_, hix, n, hn, rfl⟩ := he
      obtain ⟨h1, h2⟩ := index?_ok R hix
      have h3 := lenIE_ev ρ len h1 h2
      simp only [AV.ev, Option.map_some, AA.at_ev] at hq
      simp only [Instr.indexAt, AV.ev, Option.map_some, asIntOf, wq_bind, wq_pure, wq_underlying (under?_ok hD)]
      simp only [wq_ite, wq_bind, wq_sizeOf hn, wq_pure]
      rw [if_pos ⟨h1, h3⟩]
      exact hq
    · rename_i m elem a
      simp only [bind_ok, pure_ok] at he
      obtain ⟨_, hix, n, hn, rfl⟩ := he
      obtain ⟨h1, h2⟩ := index?_ok R hix
      have h3 : i.ev ρ < (m : Int) := h2
      simp only [AV.ev, Option.map_some, AA.at_ev] at hq
      simp only [Instr.indexAt, AV.ev, Option.map_some, asIntOf, wq_bind, wq_pure, wq_underlying (under?_ok hD), Instr.sureAddr]
      simp only [wq_ite, wq_bind, wq_sizeOf hn, wq_pure]
      rw [if_pos ⟨h1, h3⟩]
      exact hq
    · cases he
  · cases he
theorem indexAddr?_in {P : Program} {O : Orc} {t : TypeId} {x i v : AV} (he : indexAddr? P O t x i = .ok v) (hx : x.In U) (hi : i.In U) : v.In U := by
  unfold indexAddr? at he
  split at he
  · simp only [bind_ok] at he
    obtain ⟨D, hD, he⟩ := he
    split at he
    · simp only [bind_ok, pure_ok] at he
      obtain ⟨_, hix, n, hn, rfl⟩ := he
      exact AA.at_in _ hx.1 hi
    · simp only [bind_ok, pure_ok] at he
      obtain ⟨_, hix, n, hn, rfl⟩ := he
      exact AA.at_in _ hx hi
    · cases he
  · cases he
theorem wq_field {E : Value → World → Prop} {t : TypeId} {x v : AV} {i : Nat} (he : field? K.P t x i = .ok v) {Q : Value → World → Prop} (hq : Q (v.ev ρ) w) : wq K.P K.Ev E (Instr.field t (x.ev ρ) i) Q w := by
  unfold field? at he
  simp only [bind_ok] at he
  obtain ⟨D, hD, he⟩ := he
  split at he
  · rename_i fs cs
    split at he
    · rename_i f hf
      simp only [Instr.field, wq_bind, wq_underlying (under?_ok hD), hf, AV.ev, asAgg, wq_pure]
      exact wq_part he hq
    · cases he
  · cases he
theorem field?_in {P : Program} {t : TypeId} {x v : AV} {i : Nat} (he : field? P t x i = .ok v) (hx : x.In U) : v.In U := by
  unfold field? at he
  simp only [bind_ok] at he
  obtain ⟨D, hD, he⟩ := he
  split at he
  · split at he
    · exact part?_in he hx
    · cases he
  · cases he
theorem wq_index {E : Value → World → Prop} {t : TypeId} {x i v : AV} (he : indexOp? K.P t x i = .ok v) {Q : Value → World → Prop} (hq : Q (v.ev ρ) w) : wq K.P K.Ev E (Instr.index t (x.ev ρ) (i.ev ρ)) Q w := by
  unfold indexOp? at he
  simp only [bind_ok] at he
  obtain ⟨D, hD, he⟩ := he
  split at he
  · rename_i n elem cs k i
    split at he
    · rename_i hlt
      simp only [bind_ok] at he
      obtain ⟨s, hs, he⟩ := he
      simp only [Instr.index, AV.ev, IE.ev, asIntOf, wq_bind, wq_pure, wq_underlying (under?_ok hD)]
      simp only [wq_ite, wq_bind, wq_sizeOf hs]
      rw [if_pos ⟨by simp, by simpa using hlt⟩]
      have : (Int.ofNat i).toNat = i := rfl
      rw [this]
      exact wq_part he hq
    · cases he
  · rename_i s k i
    split at he
    · rename_i b hb
      rw [pure_ok] at he; subst he
      simp only [Instr.index, AV.ev, IE.ev, asIntOf, wq_bind, wq_pure, wq_underlying (under?_ok hD)]
      have hlt : i < s.data.toList.length := (List.getElem?_eq_some_iff.1 hb).1
      have : (if 0 ≤ Int.ofNat i then s[(Int.ofNat i).toNat]? else none) = some b := by
        rw [if_pos (by simp)]
        have e : (Int.ofNat i).toNat = i := rfl
        rw [e]
        have hsz : i < s.size := by simpa using hlt
        rw [getElem?_pos s i hsz]
        have h2 := (List.getElem?_eq_some_iff.1 hb).2
        rw [← h2]; rfl
      rw [this]
      simp only [AV.ev, IE.ev] at hq
      exact hq
    · cases he
  · cases he
theorem indexOp?_in {P : Program} {t : TypeId} {x i v : AV} (he : indexOp? P t x i = .ok v) (hx : x.In U) : v.In U := by
  unfold indexOp? at he
  simp only [bind_ok] at he
  obtain ⟨D, hD, he⟩ := he
  split at he
  · split at he
    · simp only [bind_ok] at he
      obtain ⟨s, hs, he⟩ := he
      exact part?_in he hx
    · cases he
  · split at he
    · rw [pure_ok] at he; subst he; trivial
    · cases he
  · cases he
theorem litNat?_ok {e : IE} {n : Nat} (h : litNat? e = .ok n) : e = .lit (.ofNat n) := by
  unfold litNat? at h
  split at h
  · cases h; rfl
  · cases h
theorem bound?_ok {v : Option AV} {d n : Nat} (h : bound? v d = .ok n) : (v = none ∧ n = d) ∨ ∃ k, v = some (.int k (.lit (.ofNat n))) := by
  unfold bound? at h
  split at h
  · cases h; exact .inl ⟨rfl, rfl⟩
  · obtain rfl := litNat?_ok h; exact .inr ⟨_, rfl⟩
  · cases h
theorem wq_sliceBound {E : Value → World → Prop} {k : IntKind} {n y : Nat} {code : BoundsCode} (hle : n ≤ y) {Q : Nat → World → Prop} (hq : Q n w) : wq K.P K.Ev E (Instr.sliceBound (.int k (Int.ofNat n)) y code) Q w := by
  simp only [Instr.sliceBound, asIntOf, wq_bind, wq_pure, wq_ite]
  rw [if_pos ⟨by simp, by simpa using hle⟩]
  exact hq
theorem high?_ok {hi mx : Option AV} {len n : Nat} (h : high? hi mx len = .ok n) : bound? hi len = .ok n ∧ (hi = none → mx = none) := by
  unfold high? at h
  split at h
  · cases h
  · rename_i hn
    refine ⟨h, fun e => ?_⟩
    subst e
    cases mx with
    | none => rfl
    | some v => exact absurd rfl (hn _ rfl)
theorem wq_sliceBounds {E : Value → World → Prop} {isS : Bool} {len cap : Nat} {lo hi mx : Option AV} {l h m : Nat} (he : bounds? len cap lo hi mx = .ok (l, h, m)) {Q : Nat × Nat × Nat → World → Prop} (hq : Q (l, h, m) w) :
    wq K.P K.Ev E (Instr.sliceBounds isS len cap (lo.map (AV.ev ρ)) (hi.map (AV.ev ρ)) (mx.map (AV.ev ρ))) Q w := by
  unfold bounds? at he
  simp only [bind_ok] at he
  obtain ⟨m', hm, h', hh, l', hl, he⟩ := he
  split at he
  · rename_i hle
    rw [pure_ok] at he
    cases he
    obtain ⟨hmc, hhm, hlh⟩ := hle
    obtain ⟨hh2, hhm0⟩ := high?_ok hh
    have low : ∀ {code : BoundsCode}, (match lo.map (AV.ev ρ) with | some v => wq K.P K.Ev E (Instr.sliceBound v h code) (fun a w => Q (a, h, m) w) w | none => Q (0, h, m) w) := by
      intro code
      rcases bound?_ok hl with ⟨rfl, rfl⟩ | ⟨k, rfl⟩
      · exact hq
      · simp only [Option.map_some, AV.ev, IE.ev]
        exact wq_sliceBound hlh hq
    rcases bound?_ok hm with ⟨rfl, rfl⟩ | ⟨k, rfl⟩
    · rcases bound?_ok hh2 with ⟨rfl, rfl⟩ | ⟨k, rfl⟩
      · simp only [Instr.sliceBounds, Option.map_none, wq_bind, wq_pure]
        have := low (code := if (none : Option Value).isSome then .slice3C else .sliceB)
        revert this
        cases lo <;> first | exact id | (simp only [Option.map_some, Option.map_none, wq_bind, wq_pure]; exact id)
      · simp only [Instr.sliceBounds, Option.map_none, Option.map_some, AV.ev, IE.ev, wq_bind, wq_pure]
        refine wq_sliceBound hhm ?_
        have := low (code := if (none : Option Value).isSome then .slice3C else .sliceB)
        revert this
        cases lo <;> first | exact id | (simp only [Option.map_some, Option.map_none, wq_bind, wq_pure]; exact id)
    · cases hi with
      | none => exact absurd (hhm0 rfl) (by simp)
      | some hv =>
        rcases bound?_ok hh2 with ⟨e, _⟩ | ⟨k2, e⟩
        · cases e
        · cases e
          simp only [Instr.sliceBounds, Option.map_some, AV.ev, IE.ev, wq_bind, wq_pure]
          refine wq_sliceBound hmc ?_
          refine wq_sliceBound hhm ?_
          have := low (code := if (some (Value.int k (Int.ofNat m))).isSome then .slice3C else .sliceB)
          revert this
          cases lo <;> first | exact id | (simp only [Option.map_some, Option.map_none, wq_bind, wq_pure]; exact id)
  · cases he
theorem map_add_ev (ρ : Env) (a : Option AA) (n : Nat) : (a.map (·.add n)).map (AA.ev ρ) = (a.map (AA.ev ρ)).map (·.add n) := by
  cases a with
  | none => rfl
  | some a => simp [AA.add_ev]
theorem wq_sliceAt {E : Value → World → Prop} {t : TypeId} {x v : AV} {lo hi mx : Option AV} (he : sliceOp? K.P t x lo hi mx = .ok v) {Q : Value → World → Prop} (hq : Q (v.ev ρ) w) :
    wq K.P K.Ev E (Instr.sliceAt t (x.ev ρ) (lo.map (AV.ev ρ)) (hi.map (AV.ev ρ)) (mx.map (AV.ev ρ))) Q w := by
  unfold sliceOp? at he
  simp only [bind_ok] at he
  obtain ⟨D, hD, he⟩ := he
  have hU := under?_ok hD
  split at he
  · rename_i elem a len cap
    simp only [bind_ok] at he
    obtain ⟨n, hn, ⟨l, h', m⟩, hb, s, hs, he⟩ := he
    obtain rfl := litNat?_ok hn
    rw [pure_ok] at he; subst he
    simp only [Instr.sliceAt, wq_bind, wq_underlying hU, Instr.slice, AV.ev, IE.ev]
    refine wq_sliceBounds hb ?_
    simp only [wq_bind, wq_sizeOf hs, wq_pure]
    simp only [AV.ev, IE.ev] at hq
    have e1 : (Int.ofNat (h' - l)).toNat = h' - l := rfl
    have e2 : (Int.ofNat (m - l)).toNat = m - l := rfl
    rw [e1, e2] at hq
    by_cases hml : m = l
    · rw [if_pos hml] at hq ⊢; exact hq
    · rw [if_neg hml] at hq ⊢; rw [map_add_ev] at hq; exact hq
  · rename_i s
    split at he
    · cases he
    · simp only [bind_ok] at he
      obtain ⟨⟨l, h', m⟩, hb, he⟩ := he
      rw [pure_ok] at he; subst he
      simp only [Instr.sliceAt, wq_bind, wq_underlying hU, Instr.slice, AV.ev, Option.map_none]
      simp only [Option.isSome_none, Bool.false_eq_true, if_false]
      have := wq_sliceBounds (K := K) (ρ := ρ) (w := w) (E := E) (isS := false) hb (Q := fun r w => Q (.string (s.extract r.1 r.2.1)) w) hq
      rw [wq_bind]
      exact this
  · rename_i n elem a
    simp only [bind_ok] at he
    obtain ⟨⟨l, h', m⟩, hb, s, hs, he⟩ := he
    rw [pure_ok] at he; subst he
    simp only [Instr.sliceAt, wq_bind, wq_underlying hU, AV.ev, Option.map_some, Instr.sureAddr, wq_pure]
    refine wq_sliceBounds hb ?_
    simp only [wq_bind, wq_sizeOf hs, wq_pure]
    simp only [AV.ev, IE.ev] at hq
    have e1 : (Int.ofNat (h' - l)).toNat = h' - l := rfl
    have e2 : (Int.ofNat (m - l)).toNat = m - l := rfl
    rw [e1, e2] at hq
    by_cases hml : m = l
    · rw [if_pos hml] at hq ⊢; exact hq
    · rw [if_neg hml] at hq ⊢; simp only [Option.map_some, AA.add_ev] at hq; exact hq
  · cases he
theorem sliceOp?_in {P : Program} {t : TypeId} {x v : AV} {lo hi mx : Option AV} (he : sliceOp? P t x lo hi mx = .ok v) (hx : x.In U) : v.In U := by
  unfold sliceOp? at he
  simp only [bind_ok] at he
  obtain ⟨D, hD, he⟩ := he
  split at he
  · rename_i elem a len cap
    simp only [bind_ok] at he
    obtain ⟨n, hn, ⟨l, h', m⟩, hb, s, hs, he⟩ := he
    rw [pure_ok] at he; subst he
    refine ⟨?_, trivial, trivial⟩
    split
    · exact hx.1
    · cases a with
      | none => trivial
      | some a => exact AA.add_in _ hx.1
  · split at he
    · cases he
    · simp only [bind_ok] at he
      obtain ⟨⟨l, h', m⟩, hb, he⟩ := he
      rw [pure_ok] at he; subst he; trivial
  · rename_i n elem a
    simp only [bind_ok] at he
    obtain ⟨⟨l, h', m⟩, hb, s, hs, he⟩ := he
    rw [pure_ok] at he; subst he
    refine ⟨?_, trivial, trivial⟩
    split
    · exact hx
    · exact AA.add_in _ hx
  · cases he
end
end Go.Proofs.YtojifefdokekpaaDoor.SX
set_option linter.unusedSectionVars false
set_option linter.unusedVariables false
set_option linter.unusedSimpArgs false
namespace Go.Proofs.YtojifefdokekpaaDoor.SX
section
variable {K : Ctx} {ρ : Env} {h : AH} {w : World} {U : Nat → Prop}
theorem wq_convert (R : Rel K ρ h w) {E : Value → World → Prop} {src dst : TypeId} {x v : AV} (he : convert? K.P K.O h src dst x = .ok v) {Q : Value → World → Prop} (hq : Q (v.ev ρ) w) :
    wq K.P K.Ev E (convert src dst (x.ev ρ)) Q w := by
  unfold convert? at he
  simp only [bind_ok] at he
  obtain ⟨S, hS, D, hD, he⟩ := he
  have hS' := under?_ok hS
  have hD' := under?_ok hD
  unfold convert
  simp only [wq_bind, wq_underlying hS', wq_underlying hD']
  split at he
  · rename_i k k' e
    rw [pure_ok] at he; subst he
    simp only [AV.ev, int_ev R, IE.ev] at hq
    simp only [AV.ev, Conv.intToInt]
    exact hq
  · rw [pure_ok] at he; subst he
    cases S <;> exact hq
  · rename_i t i n
    split at he
    · rename_i b hb
      simp only [bind_ok] at he
      obtain ⟨s, hs, he⟩ := he
      split at he
      · rename_i hc
        rw [pure_ok] at he; subst he
        obtain ⟨arr, ha, hf⟩ := R.arr hb (isMem_lt hc.1)
        obtain ⟨u, hu⟩ : ∃ u, b.cs[n]? = some u := ⟨_, List.getElem?_eq_getElem hc.1⟩
        have hlt : n < arr.size := (Array.getElem?_eq_some_iff.1 (fits_get hf hu)).1
        simp only [AV.ev, Option.map_some, AA.ev, BR.ev, IE.ev] at hq ⊢
        have e0 : (Int.ofNat n).toNat = n := rfl
        rw [e0] at hq ⊢
        simp only [Conv.unsafePointer, wq_bind, wq_underlying hS', wq_underlying hD', Conv.seenAt]
        refine wq_viewAt_own ha ?_
        simp only [wq_pure, cellsIn, wq_bind, wq_shape, World.shape?, ha]
        simp only [wq_sizeOf hs]
        have h1 : (decide (s = 0) || (decide (n ≥ arr.size) && (none : Option Nat).isNone)) = false := by
          simp [hc.2, Nat.not_le.2 hlt]
        simp only [h1, Bool.false_eq_true, if_false]
        exact hq
      · cases he
    · cases he
  · cases he
theorem convert?_in (I : Ids K U h) {src dst : TypeId} {x v : AV} (he : convert? K.P K.O h src dst x = .ok v) (hx : x.In U) : v.In U := by
  unfold convert? at he
  simp only [bind_ok] at he
  obtain ⟨S, hS, D, hD, he⟩ := he
  split at he
  · rw [pure_ok] at he; subst he; exact int_in I hx
  · rw [pure_ok] at he; subst he; trivial
  · split at he
    · simp only [bind_ok] at he
      obtain ⟨s, hs, he⟩ := he
      split at he
      · rw [pure_ok] at he; subst he; exact hx
      · cases he
    · cases he
  · cases he
theorem wq_typeAssert {E : Value → World → Prop} {x v : AV} {xt asserted : TypeId} {ok : Bool} (he : typeAssert? K.P x asserted ok = .ok v) {Q : Value → World → Prop} (hq : Q (v.ev ρ) w) :
    wq K.P K.Ev E (Instr.typeAssert (x.ev ρ) xt asserted ok) Q w := by
  unfold typeAssert? at he
  simp only [bind_ok] at he
  obtain ⟨D, hD, he⟩ := he
  have hU := under?_ok hD
  have fails : ∀ {a b : Option TypeId} {m : String} {r : M AV}, r = (if ok then (do pure (.tuple [← zero? K.P asserted, .bool (.lit false)])) else .error "typeAssert fails") → r = .ok v →
      wq K.P K.Ev E (if ok then (do pure (.tuple #[← zeroValue asserted, .bool false])) else runtimePanic (.typeAssertion a b asserted m) : Sem Value) Q w := by
    intro a b m r e hr
    subst e
    split at hr
    · rename_i hok
      simp only [bind_ok, pure_ok] at hr
      obtain ⟨z, hz, rfl⟩ := hr
      simp only [if_pos hok, wq_bind, wq_zeroValue (ρ := ρ) hz, wq_pure]
      simpa [AV.ev, AV.evs, BE.ev] using hq
    · cases hr
  have holds : ∀ {u : AV} {r : M AV}, r = pure (if ok then .tuple [u, .bool (.lit true)] else u) → r = .ok v → Q (if ok then .tuple #[u.ev ρ, .bool true] else u.ev ρ) w := by
    intro u r e hr
    subst e
    rw [pure_ok] at hr; subst hr
    split at hq
    · rename_i hok; simpa [AV.ev, AV.evs, BE.ev, hok] using hq
    · rename_i hok; simpa [hok] using hq
  simp only [Instr.typeAssert, wq_bind, wq_underlying hU]
  split at he
  · simp only [AV.ev]; exact fails rfl he
  · rename_i want t u
    simp only [AV.ev]
    split at he
    · rename_i i hi
      simp only [wq_bind, wq_typeInfo hi]
      split at he
      · rename_i hm; rw [missing_none hm]; exact holds rfl he
      · rename_i hm
        obtain ⟨m, hm'⟩ := missing_some hm
        rw [hm']; exact fails rfl he
    · cases he
  · rename_i hni
    simp only [AV.ev]
    cases D <;> first | exact absurd rfl (hni _) | exact fails rfl he
  · rename_i t u hni
    simp only [AV.ev]
    split at he
    · rename_i ht
      cases D <;> first | exact absurd rfl (hni _) | (simp only [wq_ite]; rw [if_pos ht]; exact holds rfl he)
    · rename_i ht
      cases D <;> first | exact absurd rfl (hni _) | (simp only [if_neg ht]; exact fails rfl he)
  · cases he
theorem typeAssert?_in {P : Program} {x v : AV} {asserted : TypeId} {ok : Bool} (he : typeAssert? P x asserted ok = .ok v) (hx : x.In U) : v.In U := by
  unfold typeAssert? at he
  simp only [bind_ok] at he
  obtain ⟨D, hD, he⟩ := he
  have fails : ∀ {r : M AV}, r = (if ok then (do pure (.tuple [← zero? P asserted, .bool (.lit false)])) else .error "typeAssert fails") → r = .ok v → v.In U := by
    intro r e hr
    subst e
    split at hr
    · simp only [bind_ok, pure_ok] at hr
      obtain ⟨z, hz, rfl⟩ := hr
      exact ⟨zero?_in hz, trivial, trivial⟩
    · cases hr
  have holds : ∀ {u : AV} {r : M AV}, u.In U → r = pure (if ok then .tuple [u, .bool (.lit true)] else u) → r = .ok v → v.In U := by
    intro u r hu e hr
    subst e
    rw [pure_ok] at hr; subst hr
    split
    · exact ⟨hu, trivial, trivial⟩
    · exact hu
  split at he
  · exact fails rfl he
  · split at he
    · split at he
      · exact holds hx rfl he
      · exact fails rfl he
    · cases he
  · exact fails rfl he
  · split at he
    · refine holds ?_ rfl he
      exact hx
    · exact fails rfl he
  · cases he
theorem setAt_in {l vs : List AV} {off : Nat} (hl : AV.Ins U l) (hv : AV.Ins U vs) : AV.Ins U (setAt l off vs) := by
  induction vs generalizing l off with
  | nil => exact hl
  | cons v vs ih =>
    refine ih (Ins_iff.2 fun a ha => ?_) hv.2
    rcases List.mem_or_eq_of_mem_set ha with h' | rfl
    · exact Ins_iff.1 hl _ h'
    · exact hv.1
theorem foldl_set (ρ : Env) : ∀ (vs l : List AV) (off k : Nat), ((AV.evs ρ vs).zipIdx k).foldl (fun (cs : Array Value) (x : Value × Nat) => cs.setIfInBounds (off + x.2) x.1) (AV.evs ρ l).toArray = (AV.evs ρ (setAt l (off + k) vs)).toArray
  | [], l, off, k => rfl
  | v :: vs, l, off, k => by
    simp only [AV.evs, List.zipIdx_cons, List.foldl_cons, setAt]
    have : (AV.evs ρ l).toArray.setIfInBounds (off + k) (v.ev ρ) = (AV.evs ρ (l.set (off + k) v)).toArray := by
      rw [evs_set]; simp
    rw [this]
    exact foldl_set ρ vs (l.set (off + k) v) off (k + 1)
theorem fill?_sound {place : Nat → Option (Nat × Nat)} : ∀ {parts : List (Nat × AV)} {cells r : List AV}, fill? place cells parts = .ok r →
    Instr.fill place (AV.evs ρ cells).toArray (parts.map fun p => (p.1, p.2.ev ρ)) = some (AV.evs ρ r).toArray := by
  intro parts
  induction parts with
  | nil => intro cells r hf; simp [fill?] at hf; subst hf; rfl
  | cons p parts ih =>
    obtain ⟨i, v⟩ := p
    intro cells r hf
    simp only [fill?] at hf
    split at hf
    · cases hf
    · rename_i off size hp
      split at hf
      · rename_i cs hcs
        split at hf
        · rename_i hc
          simp only [List.map_cons, Instr.fill, hp]
          rw [cells?_ev hcs ρ]
          have e1 : (AV.evs ρ cs).toArray.size = size := by simp [evs_length, hc.1]
          have e2 : ¬ off + (AV.evs ρ cs).toArray.size > (AV.evs ρ cells).toArray.size := by simp [evs_length]; exact hc.2
          rw [if_neg (by simp only [Bool.or_eq_true, decide_eq_true_eq, not_or]; exact ⟨by simpa using e1, e2⟩)]
          have e3 : (AV.evs ρ cs).toArray.zipIdx.foldl (fun (cs : Array Value) (x : Value × Nat) => cs.setIfInBounds (off + x.2) x.1) (AV.evs ρ cells).toArray = (AV.evs ρ (setAt cells off cs)).toArray := by
            rw [← Array.foldl_toList, Array.toList_zipIdx]
            exact foldl_set ρ cs cells off 0
          rw [← ih hf]
          congr 1
        · cases hf
      · cases hf
theorem fill?_in {place : Nat → Option (Nat × Nat)} : ∀ {parts : List (Nat × AV)} {cells r : List AV}, fill? place cells parts = .ok r → AV.Ins U cells → (∀ p ∈ parts, p.2.In U) → AV.Ins U r := by
  intro parts
  induction parts with
  | nil => intro cells r hf hc _; simp [fill?] at hf; subst hf; exact hc
  | cons p parts ih =>
    obtain ⟨i, v⟩ := p
    intro cells r hf hc hp
    simp only [fill?] at hf
    split at hf
    · cases hf
    · split at hf
      · rename_i cs hcs
        split at hf
        · exact ih hf (setAt_in hc (cells?_in hcs (hp (i, v) (by simp)))) fun p hp' => hp p (List.mem_cons_of_mem _ hp')
        · cases hf
      · cases hf
theorem mapM_sizes {P : Program} {Ev : Event → Prop} {E : Value → World → Prop} : ∀ {fs : List Field} {places : List (Nat × Nat)}, (fs.mapM fun f => (do pure (f.offset, ← sizeOf? P f.type) : M (Nat × Nat))) = .ok places →
    ∀ {Q : List (Nat × Nat) → World → Prop} {w : World}, Q places w → wq P Ev E (fs.mapM fun f => (do pure (f.offset, ← sizeOf f.type) : Sem (Nat × Nat))) Q w := by
  intro fs
  induction fs with
  | nil => intro places hm Q w hq; simp [pure_ok] at hm; subst hm; simpa using hq
  | cons f fs ih =>
    intro places hm Q w hq
    simp only [List.mapM_cons, bind_ok, pure_ok] at hm
    obtain ⟨p, ⟨n, hn, rfl⟩, l, hl, rfl⟩ := hm
    simp only [List.mapM_cons, wq_bind, wq_sizeOf hn, wq_pure]
    exact ih hl (by simpa using hq)
theorem wq_build {E : Value → World → Prop} {t : TypeId} {parts : List (Nat × AV)} {v : AV} (he : build? K.P t parts = .ok v) {Q : Value → World → Prop} (hq : Q (v.ev ρ) w) :
    wq K.P K.Ev E (Instr.build t (parts.map fun p => (p.1, p.2.ev ρ)).toArray) Q w := by
  unfold build? at he
  simp only [bind_ok] at he
  obtain ⟨z, hz, cs, hcs, D, hD, he⟩ := he
  have hc := cells?_ev hcs ρ
  simp only [Instr.build, wq_bind, wq_zeroValue (ρ := ρ) hz, wq_underlying (under?_ok hD), hc]
  split at he
  · rename_i fs
    simp only [bind_ok, pure_ok] at he
    obtain ⟨places, hp, r, hr, rfl⟩ := he
    have : (fs.mapM fun f => (do pure (f.offset, ← sizeOf f.type) : Sem (Nat × Nat))) = List.toArray <$> (fs.toList.mapM fun f => (do pure (f.offset, ← sizeOf f.type) : Sem (Nat × Nat))) := by
      rw [Array.mapM_eq_mapM_toList]
    simp only [wq_bind]
    rw [this, wq_map]
    refine mapM_sizes hp ?_
    have e := fill?_sound (ρ := ρ) hr
    have : (places.toArray[·]? : Nat → Option (Nat × Nat)) = (places[·]?) := by funext i; simp
    simp only [this, List.toList_toArray]
    rw [e]
    exact hq
  · rename_i n elem
    simp only [bind_ok, pure_ok] at he
    obtain ⟨s, hs, r, hr, rfl⟩ := he
    simp only [wq_bind, wq_sizeOf hs]
    have e := fill?_sound (ρ := ρ) hr
    rw [e]
    exact hq
  · cases he
theorem build?_in {P : Program} {t : TypeId} {parts : List (Nat × AV)} {v : AV} (he : build? P t parts = .ok v) (hp : ∀ p ∈ parts, p.2.In U) : v.In U := by
  unfold build? at he
  simp only [bind_ok] at he
  obtain ⟨z, hz, cs, hcs, D, hD, he⟩ := he
  have hc : AV.Ins U cs := cells?_in hcs (zero?_in hz)
  split at he
  · simp only [bind_ok, pure_ok] at he
    obtain ⟨places, _, r, hr, rfl⟩ := he
    exact fill?_in hr hc hp
  · simp only [bind_ok, pure_ok] at he
    obtain ⟨s, hs, r, hr, rfl⟩ := he
    exact fill?_in hr hc hp
  · cases he
end
end Go.Proofs.YtojifefdokekpaaDoor.SX
set_option linter.unusedSectionVars false
set_option linter.unusedVariables false
set_option linter.unusedSimpArgs false
namespace Go.Proofs.YtojifefdokekpaaDoor.SX
structure HOk (K : Ctx) (U : Nat → Prop) (ρ : Env) (h : AH) (w : World) (s : Sem Value) (v : AV) (h' : AH) : Prop where
  mem : v.In (plus U h.nb h'.nb)
  grows : Grows K U h h'
  run : ∀ {E : Value → World → Prop} {Q : Value → World → Prop}, (∀ x w', After K U ρ w h' (fun ρ' => x = v.ev ρ') w' → Q x w') → wq K.P K.Ev E s Q w
section
variable {K : Ctx} {ρ : Env} {h : AH} {w : World} {U : Nat → Prop}
theorem HOk.pure (R : Rel K ρ h w) (I : Ids K U h) {s : Sem Value} {v : AV} (hi : v.In U) (hw : ∀ {E : Value → World → Prop} {Q : Value → World → Prop}, Q (v.ev ρ) w → wq K.P K.Ev E s Q w) : HOk K U ρ h w s v h :=
  ⟨AV.In.mono plus_sub _ hi, Grows.refl I, fun hq => hw (hq _ _ (After.same R rfl))⟩
theorem wq_newVar_of {E : Value → World → Prop} {t : TypeId} {v : Value} {cs : Array Value} (hc : v.cells = cs) {Q : Addr → World → Prop} (hq : Q ⟨w.heap.size, 0, none⟩ { w with heap := w.heap.push (.cells cs t (0, 0)) }) : wq K.P K.Ev E (newVar t v) Q w := by
  simp only [newVar, newRow, wq_bind, wq_newObj, hc]
  exact hq
theorem alloc_ok (R : Rel K ρ h w) (I : Ids K U h) {elem : TypeId} {z v : AV} {cs : List AV} {h' : AH} (hz : zero? K.P elem = .ok z) (hc : z.cells? = .ok cs) (ha : alloc? h (.cells cs elem) = .ok (v, h')) :
    HOk K U ρ h w (Instr.alloc elem true (.tuple #[])) v h' := by
  obtain ⟨_, h1, h2, h3⟩ := alloc?_sound R I ha (cells?_in hc (zero?_in hz))
  refine ⟨h1, h2, fun {E Q} hq => ?_⟩
  simp only [Instr.alloc, wq_bind, wq_zeroValue (ρ := ρ) hz]
  refine wq_newVar_of (cells?_ev hc ρ) ?_
  obtain ⟨ρ', a1, a2, a3, a4⟩ := h3 (AV.evs ρ cs).toArray (by simp [ABlk.fits])
  exact hq _ _ ⟨ρ', a1, a2, a3, a4.symm⟩
theorem box_ok (R : Rel K ρ h w) (I : Ids K U h) {elem : TypeId} {x v : AV} {cs : List AV} {h' : AH} (hx : x.In U) (hc : x.cells? = .ok cs) (ha : alloc? h (.cells cs elem) = .ok (v, h')) :
    HOk K U ρ h w (Instr.box elem (x.ev ρ)) v h' := by
  obtain ⟨_, h1, h2, h3⟩ := alloc?_sound R I ha (cells?_in hc hx)
  refine ⟨h1, h2, fun {E Q} hq => ?_⟩
  simp only [Instr.box, wq_bind]
  refine wq_newVar_of (cells?_ev hc ρ) ?_
  obtain ⟨ρ', a1, a2, a3, a4⟩ := h3 (AV.evs ρ cs).toArray (by simp [ABlk.fits])
  exact hq _ _ ⟨ρ', a1, a2, a3, a4.symm⟩
theorem repl_in {l : List AV} (hl : AV.Ins U l) : ∀ n, AV.Ins U (repl n l)
  | 0 => trivial
  | n + 1 => Ins_iff.2 fun a ha => by
    simp only [repl, List.mem_append] at ha
    rcases ha with ha | ha
    · exact Ins_iff.1 hl _ ha
    · exact Ins_iff.1 (repl_in hl n) _ ha
theorem range_mod (l : List Value) (hl : 0 < l.length) : ∀ n : Nat, (List.range (n * l.length)).map (fun i => l.toArray[i % l.length]!) = (List.replicate n l).flatten
  | 0 => by simp
  | n + 1 => by
    have e : (n + 1) * l.length = l.length + n * l.length := by rw [Nat.succ_mul, Nat.add_comm]
    rw [e, List.range_add, List.map_append, List.map_map, List.replicate_succ, List.flatten_cons]
    congr 1
    · refine List.ext_getElem (by simp) fun i h1 h2 => ?_
      simp only [List.length_map, List.length_range] at h1
      simp [Nat.mod_eq_of_lt h1, List.getElem?_eq_getElem h1]
    · rw [← range_mod l hl n]
      refine List.map_congr_left fun i _ => ?_
      simp
theorem repl_ev (ρ : Env) : ∀ (n : Nat) (l : List AV), AV.evs ρ (repl n l) = (List.replicate n (AV.evs ρ l)).flatten
  | 0, l => by simp [repl, AV.evs]
  | n + 1, l => by simp [repl, evs_append, repl_ev ρ n l, List.replicate_succ]
theorem zeros_arr (ρ : Env) {z : AV} {zc : List AV} {size n : Nat} (hc : z.cells? = .ok zc) (hs : zc.length = size) (h0 : 0 < size) :
    (Array.range (n * size)).map (fun i => (z.ev ρ).cells[i % (z.ev ρ).cells.size]!) = (AV.evs ρ (repl n zc)).toArray := by
  rw [cells?_ev hc ρ]
  have hl : (AV.evs ρ zc).length = size := by rw [evs_length, hs]
  have h1 : (AV.evs ρ zc).toArray.size = size := by simp [hl]
  rw [h1, repl_ev]
  have := range_mod (AV.evs ρ zc) (by rw [hl]; exact h0) n
  rw [hl] at this
  rw [← this]
  apply Array.toList_inj.1
  simp [Array.toList_range]
theorem zeros?_wq {α : Type} {E : Value → World → Prop} {elem : TypeId} {size n : Nat} {l : List AV} (hz : zeros? K.P elem size n = .ok l) {kk : Array Value → Sem α} {Q : α → World → Prop}
    (hq : ∀ zero : Array Value, (Array.range (n * size)).map (zero[· % zero.size]!) = (AV.evs ρ l).toArray → wq K.P K.Ev E (kk zero) Q w) :
    wq K.P K.Ev E (if n * size = 0 then (do
      let zero ← Pure.pure #[]
      kk zero) else (do
      let z ← zeroValue elem
      let zero ← Pure.pure z.cells
      kk zero)) Q w := by
  unfold zeros? at hz
  split at hz
  · rename_i h0
    cases hz
    rw [if_pos h0]
    exact hq _ (by rw [h0]; simp [AV.evs, Array.range])
  · rename_i h0
    simp only [bind_ok] at hz
    obtain ⟨z, hz, zc, hc, hz2⟩ := hz
    split at hz2
    · rename_i hs
      rw [pure_ok] at hz2; subst hz2
      rw [if_neg h0]
      simp only [wq_bind, wq_zeroValue (ρ := ρ) hz, wq_pure]
      exact hq _ (zeros_arr ρ hc hs (Nat.pos_of_ne_zero fun e => h0 (by rw [e]; simp)))
    · cases hz2
theorem zeros?_in {P : Program} {elem : TypeId} {size n : Nat} {l : List AV} (hz : zeros? P elem size n = .ok l) : AV.Ins U l := by
  unfold zeros? at hz
  split at hz
  · cases hz; trivial
  · simp only [bind_ok] at hz
    obtain ⟨z, hz, zc, hc, hz2⟩ := hz
    split at hz2
    · rw [pure_ok] at hz2; subst hz2
      exact repl_in (cells?_in hc (zero?_in hz)) _
    · cases hz2
theorem bytesOf?_ok {P : Program} {t : TypeId} {n : Nat} (h : bytesOf? P t = .ok n) : ∃ i, P.info? t = some i ∧ i.bytes = n := by
  unfold bytesOf? at h
  split at h
  · rename_i i hi; exact ⟨i, hi, by simpa using h⟩
  · cases h
theorem buildSlice_ok (R : Rel K ρ h w) (I : Ids K U h) {t : TypeId} {len : Nat} {parts : List (Nat × AV)} {v : AV} {h' : AH} (hp : ∀ p ∈ parts, p.2.In U) (he : buildSlice? K.P h t len parts = .ok (v, h')) :
    HOk K U ρ h w (Instr.buildSlice t len (parts.map fun p => (p.1, p.2.ev ρ)).toArray) v h' := by
  unfold buildSlice? at he
  simp only [bind_ok] at he
  obtain ⟨D, hD, he⟩ := he
  split at he
  · rename_i elem
    simp only [bind_ok] at he
    obtain ⟨size, hs, he⟩ := he
    split at he
    · cases he
    · rename_i hlen
      simp only [bind_ok] at he
      obtain ⟨z, hz, cells, hc, ha⟩ := he
      have hin : AV.Ins U cells := fill?_in hc (zeros?_in hz) hp
      obtain ⟨h1, h2, h3⟩ := allocSlice?_sound R I ha hin trivial trivial
      refine ⟨h1, h2, fun {E Q} hq => ?_⟩
      simp only [Instr.buildSlice, wq_bind, wq_underlying (under?_ok hD), wq_sizeOf hs]
      rw [if_neg (by simp only [gt_iff_lt, Nat.not_lt]; omega)]
      refine zeros?_wq (ρ := ρ) hz fun zero hzero => ?_
      rw [hzero, fill?_sound (ρ := ρ) hc]
      simp only [newRow, wq_bind, wq_newObj, wq_pure]
      obtain ⟨ρ', a1, a2, a3, a4⟩ := h3 (AV.evs ρ cells).toArray (by simp [ABlk.fits])
      exact hq _ _ ⟨ρ', a1, a2, a3, a4.symm⟩
  · cases he
theorem makeSlice_ok (G : K.Good) (R : Rel K ρ h w) (I : Ids K U h) {t : TypeId} {l c v : AV} {h' : AH} (he : makeSlice? K.P h t l c = .ok (v, h')) :
    HOk K U ρ h w (Instr.makeSlice t (l.ev ρ) (c.ev ρ)) v h' := by
  unfold makeSlice? at he
  simp only [bind_ok] at he
  obtain ⟨D, hD, he⟩ := he
  split at he
  · rename_i elem
    split at he
    · rename_i k1 l k2 c
      simp only [bind_ok] at he
      obtain ⟨l', hl, c', hc, size, hs, bytes, hb, he⟩ := he
      obtain rfl := litNat?_ok hl
      obtain rfl := litNat?_ok hc
      split at he
      · rename_i hle
        obtain ⟨hlc, hc2, hb2⟩ := hle
        simp only [bind_ok] at he
        obtain ⟨cells, hz, ha⟩ := he
        obtain ⟨i, hi, hib⟩ := bytesOf?_ok hb
        obtain ⟨h1, h2, h3⟩ := allocSlice?_sound R I ha (zeros?_in hz) trivial trivial
        refine ⟨h1, h2, fun {E Q} hq => ?_⟩
        have wl : IntKind.i64.wrap (Int.ofNat l') = l' := IntWalk.i64_in _ ⟨by have : (0 : Int) ≤ Int.ofNat l' := Int.natCast_nonneg _; omega, by have : Int.ofNat l' ≤ (1048576 : Nat) := Int.ofNat_le.2 (Nat.le_trans hlc hc2); omega⟩
        have wc : IntKind.i64.wrap (Int.ofNat c') = c' := IntWalk.i64_in _ ⟨by have : (0 : Int) ≤ Int.ofNat c' := Int.natCast_nonneg _; omega, by have : Int.ofNat c' ≤ (1048576 : Nat) := Int.ofNat_le.2 hc2; omega⟩
        have hmul : bytes * c' ≤ 68719476736 := Nat.mul_le_mul hb2 hc2
        have hmulI : ((i.bytes : Int) * (c' : Int)) ≤ 68719476736 := by rw [hib, ← Int.natCast_mul]; exact Int.ofNat_le.2 hmul
        simp only [Instr.makeSlice, AV.ev, IE.ev, asInt, asIntOf, wq_bind, wq_underlying (under?_ok hD), wq_pure, wq_typeInfo hi, wl, wc]
        have hcond : (((decide ((c' : Int) < 0) || decide ((i.bytes : Int) * (c' : Int) > 2 ^ 48)) || decide ((l' : Int) < 0)) || decide ((l' : Int) > (c' : Int))) = false := by
          have hp : (2 : Int) ^ 48 = 281474976710656 := by decide
          rw [hp]
          simp only [Bool.or_eq_false_iff, decide_eq_false_iff_not]
          refine ⟨⟨⟨by omega, by omega⟩, by omega⟩, by omega⟩
        rw [if_neg (by rw [hcond]; simp)]
        have ask : ∀ {Q' : Unit → World → Prop}, Q' () w → wq K.P K.Ev E (askRoom (((c' : Int)).toNat * i.bytes)) Q' w := by
          intro Q' hq'
          unfold askRoom
          simp only [wq_ite, wq_mark, wq_pure]
          split
          · exact ⟨G.noRoom, hq'⟩
          · exact hq'
        simp only [wq_bind, wq_pure]
        refine ask ?_
        simp only [wq_sizeOf hs, Int.toNat_natCast]
        refine zeros?_wq (ρ := ρ) hz fun zero hzero => ?_
        rw [hzero]
        simp only [newRow, wq_bind, wq_newObj, wq_pure]
        obtain ⟨ρ', a1, a2, a3, a4⟩ := h3 (AV.evs ρ cells).toArray (by simp [ABlk.fits])
        exact hq _ _ ⟨ρ', a1, a2, a3, a4.symm⟩
      · cases he
    · cases he
  · cases he
theorem makeRow_ok (G : K.Good) (R : Rel K ρ h w) (I : Ids K U h) {t : TypeId} {l c v : AV} {h' : AH} (hcU : c.In U) (he : makeRow? K.P K.O h t l c = .ok (v, h')) :
    HOk K U ρ h w (Instr.makeSlice t (l.ev ρ) (c.ev ρ)) v h' := by
  unfold makeRow? at he
  simp only [bind_ok] at he
  obtain ⟨D, hD, he⟩ := he
  split at he
  · rename_i elem
    split at he
    · rename_i k1 l k2 c
      simp only [bind_ok] at he
      obtain ⟨z, hz, size, hs, bytes, hb, neg, hneg, big, hbig, he⟩ := he
      split at he
      · rename_i hle
        obtain ⟨hlc, hn, hg, hb2⟩ := hle
        subst hn; subst hg
        obtain rfl := IE.eqb_eq hlc
        obtain ⟨i, hi, hib⟩ := bytesOf?_ok hb
        obtain ⟨h1, h2, h3⟩ := allocSlice?_sound R I he (b := .row [] elem l) ⟨trivial, hcU⟩ hcU hcU
        refine ⟨h1, h2, fun {E Q} hq => ?_⟩
        have c0 : ¬ l.ev ρ < 0 := dec_neg R hneg (by simp)
        have c1' : ¬ l.ev ρ > 4294967296 := by
          unfold bigB at hbig
          split at hbig
          · rename_i b hb1
            cases hbig
            have c1 : decide (l.ev ρ > 1048576) = false := dec_ev R hb1
            have := of_decide_eq_false c1
            omega
          · have c1 : decide (l.ev ρ > 4294967296) = false := dec_ev R hbig
            exact of_decide_eq_false c1
        generalize hL : l.ev ρ = n at c0 c1'
        have wl : IntKind.i64.wrap n = n := IntWalk.i64_in _ ⟨by omega, by omega⟩
        have hmulI : ((i.bytes : Int) * n) ≤ 65536 * 4294967296 := Int.mul_le_mul (by rw [hib]; exact Int.ofNat_le.2 hb2) (by omega) (by omega) (by decide)
        simp only [Instr.makeSlice, AV.ev, asInt, asIntOf, wq_bind, wq_underlying (under?_ok hD), wq_pure, wq_typeInfo hi, hL, wl]
        have hcond : (((decide (n < 0) || decide ((i.bytes : Int) * n > 2 ^ 48)) || decide (n < 0)) || decide (n > n)) = false := by
          have hp : (2 : Int) ^ 48 = 281474976710656 := by decide
          rw [hp]
          simp only [Bool.or_eq_false_iff, decide_eq_false_iff_not]
          refine ⟨⟨⟨c0, by omega⟩, c0⟩, by omega⟩
        rw [if_neg (by rw [hcond]; simp)]
        have ask : ∀ {Q' : Unit → World → Prop}, Q' () w → wq K.P K.Ev E (askRoom (n.toNat * i.bytes)) Q' w := by
          intro Q' hq'
          unfold askRoom
          simp only [wq_ite, wq_mark, wq_pure]
          split
          · exact ⟨G.noRoom, hq'⟩
          · exact hq'
        simp only [wq_bind, wq_pure]
        refine ask ?_
        simp only [wq_sizeOf hs]
        have fin : ∀ zero : Array Value, wq K.P K.Ev E (do
            let a ← newRow elem ((Array.range (n.toNat * size)).map (zero[· % zero.size]!))
            pure (.slice (some a) n.toNat n.toNat)) Q w := by
          intro zero
          simp only [newRow, wq_bind, wq_newObj, wq_pure]
          obtain ⟨ρ', a1, a2, a3, a4⟩ := h3 ((Array.range (n.toNat * size)).map (zero[· % zero.size]!)) (by
            obtain ⟨i', hi', hi2⟩ := sizeOf?_ok hs
            refine ⟨_, i', (List.nil_append _).symm, hi', ?_⟩
            rw [hL, hi2]; simp)
          rw [hL] at a4
          exact hq _ _ ⟨ρ', a1, a2, a3, a4.symm⟩
        by_cases h0 : n.toNat * size = 0
        · rw [if_pos h0]
          exact fin #[]
        · rw [if_neg h0]
          simp only [wq_bind, wq_zeroValue (ρ := ρ) hz, wq_pure]
          exact fin _
      · cases he
    · cases he
  · cases he
theorem makeSliceS_ok (G : K.Good) (R : Rel K ρ h w) (I : Ids K U h) {t : TypeId} {l c v : AV} {h' : AH} (hcU : c.In U) (he : makeSliceS? K.P K.O h t l c = .ok (v, h')) :
    HOk K U ρ h w (Instr.makeSlice t (l.ev ρ) (c.ev ρ)) v h' := by
  unfold makeSliceS? at he
  split at he
  · exact makeSlice_ok G R I he
  · exact makeRow_ok G R I hcU he
end
end Go.Proofs.YtojifefdokekpaaDoor.SX
set_option linter.unusedSectionVars false
set_option linter.unusedVariables false
set_option linter.unusedSimpArgs false
namespace Go.Proofs.YtojifefdokekpaaDoor.SX
section
variable {K : Ctx} {ρ : Env} {h : AH} {w : World} {U : Nat → Prop}
theorem wq_storeCells_arr (G : K.Good) {E : Value → World → Prop} {b : Nat} (ho : K.own b) {e : TypeId} : ∀ {l : List Value} {off j : Nat} {arr : Array Value} {w : World}, (∀ n, off + j ≤ n → ¬ K.still b n) → w.heap[b]? = some (.cells arr e (0, 0)) → off + j + l.length ≤ arr.size → (∀ v ∈ l, v.oneCell' = true) →
    ∀ {Q : Unit → World → Prop}, (∀ w' (arr' : Array Value), w'.heap[b]? = some (.cells arr' e (0, 0)) → (∀ n, n ≠ b → w'.heap[n]? = w.heap[n]?) → w'.heap.size = w.heap.size → w'.tape = w.tape → w'.os = w.os → w'.output = w.output →
      arr'.size = arr.size → (∀ n, n < off + j → arr'[n]? = arr[n]?) → (∀ n, n < l.length → arr'[off + j + n]? = l[n]?) → Q () w') → wq K.P K.Ev E (storeCells ⟨b, off, none⟩ l j) Q w := by
  intro l
  induction l with
  | nil => intro off j arr w hns hb hle _ Q hq; exact hq w arr hb (fun _ _ => rfl) rfl rfl rfl rfl rfl (fun _ _ => rfl) (fun n hn => by simp at hn)
  | cons v l ih =>
    intro off j arr w hns hb hle hone Q hq
    simp only [List.length_cons] at hle
    simp only [storeCells, wq_bind]
    rw [wq_store]
    have ha : (⟨b, off, none⟩ : Addr).add j = ⟨b, off + j, none⟩ := by unfold Addr.add; split <;> simp_all
    rw [ha]
    have hlt : off + j < arr.size := by omega
    refine ⟨hone v (by simp), ⟨_, (cell?_of hb).trans (Array.getElem?_eq_getElem hlt)⟩, frozen?_of hb, G.wr _ _ ho (hns _ (Nat.le_refl _)), ?_⟩
    have hb' : (w.setCell ⟨b, off + j, none⟩ v).heap[b]? = some (.cells (arr.setIfInBounds (off + j) v) e (0, 0)) := by
      rw [heap_setCell, if_pos rfl, hb]; rfl
    refine ih (arr := arr.setIfInBounds (off + j) v) (fun n hn => hns n (by omega)) hb' (by simp; omega) (fun u hu => hone u (List.mem_cons_of_mem _ hu)) ?_
    intro w' arr' q1 q2 q3 q4 q5 q6 q7 q8 q9
    refine hq w' arr' q1 (fun n hn => ?_) (q3.trans (size_setCell _ _ _)) q4 q5 q6 (by rw [q7]; simp) (fun n hn => ?_) (fun n hn => ?_)
    · rw [q2 n hn, heap_setCell, if_neg hn]
    · rw [q8 n (by omega), Array.getElem?_setIfInBounds_ne (by omega)]
    · cases n with
      | zero => rw [Nat.add_zero, q8 (off + j) (by omega)]; simp [hlt]
      | succ n =>
        have := q9 n (by simp at hn; omega)
        rw [List.getElem?_cons_succ, ← this]
        congr 1
        omega
theorem nextslice_small {need cap bytes : Nat} (h1 : cap < need) (h2 : need ≤ 1048576) (h3 : bytes ≤ 1024) : ¬ Builtin.nextslicecap need cap * bytes > 2 ^ 48 := by
  have := nextslicecap_le h1
  have h4 : Builtin.nextslicecap need cap * bytes ≤ 2097152 * 1024 := Nat.mul_le_mul (by omega) h3
  omega
theorem oneCells_ev {new : List AV} (h1 : new.all (·.oneCell?) = true) (ρ : Env) : ∀ v ∈ AV.evs ρ new, v.oneCell' = true := by
  rw [evs_map]
  intro v hv
  obtain ⟨a, ha, rfl⟩ := List.mem_map.1 hv
  exact oneCell_ev (List.all_eq_true.1 h1 a ha) ρ
theorem appArgs?_len {O : Orc} {size : Nat} {x : AV} {n : Nat} {new : List AV} (ha : appArgs? O h size x = .ok (n, new)) : new.length = n * size := by
  unfold appArgs? at ha
  split at ha
  · split at ha
    · cases ha; simp
    · cases ha
  · simp only [bind_ok, pure_ok] at ha
    obtain ⟨m, hm, l, hl, e⟩ := ha
    cases e
    exact loadN_length hl
  · split at ha
    · rename_i h1
      cases ha
      simp [h1]
    · cases ha
  · cases ha
theorem appArgs?_in (I : Ids K U h) {size : Nat} {x : AV} {n : Nat} {new : List AV} (ha : appArgs? K.O h size x = .ok (n, new)) : AV.Ins U new := by
  unfold appArgs? at ha
  split at ha
  · split at ha
    · cases ha; trivial
    · cases ha
  · simp only [bind_ok, pure_ok] at ha
    obtain ⟨m, hm, l, hl, e⟩ := ha
    cases e
    exact loadN_in I hl
  · split at ha
    · cases ha
      exact Ins_iff.2 fun a ha => by obtain ⟨c, _, rfl⟩ := List.mem_map.1 ha; trivial
    · cases ha
  · cases ha
theorem wq_lenOf {E : Value → World → Prop} {O : Orc} {size : Nat} {x : AV} {n : Nat} {new : List AV} (ha : appArgs? O h size x = .ok (n, new)) {Q : Nat → World → Prop} (hq : Q n w) : wq K.P K.Ev E (Builtin.lenOf (x.ev ρ)) Q w := by
  unfold appArgs? at ha
  split at ha
  · split at ha
    · cases ha; exact hq
    · cases ha
  · simp only [bind_ok, pure_ok] at ha
    obtain ⟨m, hm, l, hl, e⟩ := ha
    cases e
    obtain rfl := litNat?_ok hm
    exact hq
  · split at ha
    · cases ha; exact hq
    · cases ha
  · cases ha
theorem wq_firstCells (R : Rel K ρ h w) (G : K.Good) {E : Value → World → Prop} {size : Nat} {x : AV} {n : Nat} {new : List AV} (ha : appArgs? K.O h size x = .ok (n, new)) {Q : Array Value → World → Prop} (hq : Q (AV.evs ρ new).toArray w) :
    wq K.P K.Ev E (Builtin.firstCells size n (x.ev ρ)) Q w := by
  unfold appArgs? at ha
  split at ha
  · split at ha
    · cases ha; exact hq
    · cases ha
  · simp only [bind_ok, pure_ok] at ha
    obtain ⟨m, hm, l, hl, e⟩ := ha
    cases e
    simp only [AV.ev, Option.map_some, Builtin.firstCells, loadCells]
    exact loadN_sound R G hl (by simpa using hq)
  · split at ha
    · rename_i t h1
      cases ha
      simp only [AV.ev, Builtin.firstCells, wq_pure]
      have : (t.extract 0 t.size).data.map (fun b => Value.int .u8 b.toNat) = (AV.evs ρ (t.data.toList.map fun c => AV.int .u8 (.lit c.toNat))).toArray := by
        have e0 : t.extract 0 t.size = t := ByteArray.extract_zero_size
        rw [e0, evs_map, List.map_map]
        apply Array.toList_inj.1
        simp [AV.ev, IE.ev]
      rw [this]; exact hq
    · cases ha
  · cases ha
theorem allocRow?_sound (R : Rel K ρ h w) (I : Ids K U h) {old : Option Nat} {cs : List AV} {elem : TypeId} {len : Nat} {v : AV} {h' : AH} (ha : allocRow? h old cs elem len = .ok (v, h')) (hc : AV.Ins U cs) :
    v.In (plus U h.nb h'.nb) ∧ Grows K U h h' ∧ ∀ (m : Nat) (c : Nat) (w' : World) (arr : Array Value) (rest : List Value) (i : TypeInfo), Keeps K.own w w' → w'.heap[m]? = some (.cells arr elem (0, 0)) → (K.own m ∧ ∀ n, ¬ K.still m n) → Rel K ρ (match old with | some i => { h with hp := dropB i h.hp } | none => h) w' →
      (∀ j b, findB j (match old with | some i => dropB i h.hp | none => h.hp) = some b → ρ.b j ≠ m) → arr.toList = AV.evs ρ cs ++ rest → K.P.info? elem = some i → arr.size = c * i.size →
      After K U ρ w h' (fun ρ' => v.ev ρ' = .slice (some ⟨m, 0, none⟩) len c) w' := by
  obtain ⟨hp, nb, lim⟩ := h
  simp only [allocRow?] at ha
  split at ha
  · rename_i hlt
    cases ha
    have hnu : ¬ U nb := I.fresh _ (Nat.le_refl _) hlt
    have hin : ABlk.In (plus U nb (nb + 1)) (.row cs elem (.var nb)) := ⟨AV.Ins.mono plus_sub _ hc, .inr ⟨Nat.le_refl _, Nat.lt_succ_self _⟩⟩
    refine ⟨⟨⟨.inr ⟨Nat.le_refl _, Nat.lt_succ_self _⟩, trivial⟩, trivial, .inr ⟨Nat.le_refl _, Nat.lt_succ_self _⟩⟩, ?_, ?_⟩
    · cases old with
      | none => exact ⟨Nat.le_succ _, rfl, I.ins hlt hin⟩
      | some i => exact ⟨Nat.le_succ _, rfl, (I.drop i).ins hlt hin⟩
    · intro m c w' arr rest inf hk hm ho R' hne harr hinf hsz
      have hf : (ABlk.row cs elem (.var nb)).fits K.P (ρ.upd nb m c) arr := ⟨rest, inf, by rw [AV.evs_agree (agree_upd hnu) cs hc]; exact harr, hinf, by simpa [IE.ev, Env.upd] using hsz⟩
      refine ⟨ρ.upd nb m c, agree_upd hnu, ?_, hk, ?_⟩
      · cases old with
        | none => exact Rel.ins R' I hlt hm ho.1 hne ho.2 hf
        | some i => exact Rel.ins R' (I.drop i) hlt hm ho.1 hne ho.2 hf
      · simp [AV.ev, AA.ev, BR.ev, IE.ev, Env.upd]
  · cases ha
theorem wq_grow (G : K.Good) (R : Rel K ρ h w) {E : Value → World → Prop} {elem : TypeId} {i : TypeInfo} {z : AV} {zc : List AV} {need sCap sLen n size : Nat} {s x : Value} {old new : List AV} (hi : K.P.info? elem = some i) (hsz : i.size = size) (hz : zero? K.P elem = .ok z) (hc : z.cells? = .ok zc) (hzl : zc.length = size)
    (hold : ∀ {Q' : Array Value → World → Prop} {w' : World}, Rel K ρ h w' → Q' (AV.evs ρ old).toArray w' → wq K.P K.Ev E (Builtin.firstCells size sLen s) Q' w')
    (hnew : ∀ {Q' : Array Value → World → Prop} {w' : World}, Rel K ρ h w' → Q' (AV.evs ρ new).toArray w' → wq K.P K.Ev E (Builtin.firstCells size n x) Q' w')
    (hlen : (old ++ new).length = need * size) (hneed : need ≤ 1048576) {Q : Value → World → Prop}
    (hq : ∀ (newCap : Nat) (w0 : World) (arr : Array Value) (rest : List Value), w0.heap = w.heap → w0.tape = w.tape → w0.os = w.os → w0.output = w.output → arr.toList = AV.evs ρ (old ++ new) ++ rest → arr.size = newCap * size → need ≤ newCap →
      Q (.slice (some ⟨w.heap.size, 0, none⟩) need newCap) { w0 with heap := w0.heap.push (.cells arr elem (0, 0)) }) :
    wq K.P K.Ev E (do
      let newCap ← choose (.appendCap need sCap elem)
      askRoom (newCap * (← typeInfo elem).bytes)
      let old ← Builtin.firstCells size sLen s
      let new ← Builtin.firstCells size n x
      let rest := Builtin.zeroCells (← zeroValue elem).cells (newCap - need)
      Pure.pure (.slice (some (← newRow elem (old ++ new ++ rest))) need newCap)) Q w := by
  simp only [wq_bind]
  rw [wq_choose]
  rw [if_neg (by simp [Question.forced])]
  intro nn
  simp only [wq_typeInfo hi]
  have ask : ∀ {m : Nat} {Q' : Unit → World → Prop} {w' : World}, Q' () w' → wq K.P K.Ev E (askRoom m) Q' w' := by
    intro m Q' w' hq'
    unfold askRoom
    simp only [wq_ite, wq_mark, wq_pure]
    split
    · exact ⟨G.noRoom, hq'⟩
    · exact hq'
  refine ask ?_
  have R' : Rel K ρ h { w with drawn := w.drawn + 1 } := R.at rfl
  refine hold R' ?_
  refine hnew R' ?_
  simp only [wq_zeroValue (ρ := ρ) hz, newRow, wq_bind, wq_newObj, wq_pure]
  have hcut : need ≤ Question.cut (.appendCap need sCap elem) nn := by simp only [Question.cut]; omega
  generalize hcap : Question.cut (.appendCap need sCap elem) nn = newCap at hcut
  refine hq newCap { w with drawn := w.drawn + 1 } _ (Builtin.zeroCells (z.ev ρ).cells (newCap - need)).toList rfl rfl rfl rfl ?_ ?_ hcut
  · simp [evs_append]
  · have e1 : (z.ev ρ).cells.size = size := by rw [cells?_ev hc ρ]; simp [evs_length, hzl]
    have e2 : old.length + new.length = need * size := by simpa using hlen
    simp only [Array.size_append, Builtin.zeroCells, Array.size_map, Array.size_range, List.size_toArray, evs_length, e1]
    rw [e2, ← Nat.add_mul]
    congr 1
    omega
end
end Go.Proofs.YtojifefdokekpaaDoor.SX
set_option linter.unusedSectionVars false
set_option linter.unusedVariables false
set_option linter.unusedSimpArgs false
namespace Go.Proofs.YtojifefdokekpaaDoor.SX
section
variable {K : Ctx} {ρ : Env} {h : AH} {w : World} {U : Nat → Prop}
theorem store0_nb {a : AA} {v : AV} {h' : AH} (hs : store0 h a v = .ok h') : h'.nb = h.nb ∧ h'.lim = h.lim := by
  unfold store0 at hs
  split at hs
  · split at hs
    · split at hs
      · cases hs; exact ⟨rfl, rfl⟩
      · cases hs
    · cases hs
  · cases hs
theorem store1_nb {a : AA} {v : AV} {h' : AH} (hs : store1 h a v = .ok h') : h'.nb = h.nb ∧ h'.lim = h.lim := by
  unfold store1 at hs
  split at hs
  · rename_i h1 hh
    cases hs
    exact store0_nb hh
  · split at hs
    · rename_i h1 hh
      cases hs
      unfold preSet? at hh
      split at hh
      · split at hh
        · split at hh
          · split at hh
            · cases hh; exact ⟨rfl, rfl⟩
            · cases hh
          · cases hh
        · cases hh
      · cases hh
    · cases hs
theorem storeN_nb {a : AA} : ∀ {l : List AV} {j : Nat} {h h' : AH}, storeN h a l j = .ok h' → h'.nb = h.nb ∧ h'.lim = h.lim := by
  intro l
  induction l with
  | nil => intro j h h' hs; simp [storeN] at hs; subst hs; exact ⟨rfl, rfl⟩
  | cons v l ih =>
    intro j h h' hs
    simp only [storeN] at hs
    split at hs
    · rename_i h1 hh1
      have a1 := store1_nb hh1
      have a2 := ih hs
      exact ⟨a2.1.trans a1.1, a2.2.trans a1.2⟩
    · cases hs
theorem Grows.of_same {h' : AH} (I' : Ids K U h') (e1 : h'.nb = h.nb) (e2 : h'.lim = h.lim) : Grows K U h h' :=
  ⟨by omega, e2, I'.congr fun n => ⟨.inl, fun x => x.elim id fun x => by omega⟩⟩
theorem lenPlus_ev (ρ : Env) (m : IE) (k : Nat) : ((lenPlus m k).ev ρ).toNat = (m.ev ρ).toNat + k := by
  unfold lenPlus
  split
  · simp
  · simp only [IE.ev]; simp; omega
theorem lenPlus_in {m : IE} (k : Nat) (h : m.In U) : (lenPlus m k).In U := by
  unfold lenPlus
  split
  · exact h
  · exact ⟨h, trivial⟩
theorem wq_loadCells_arr (G : K.Good) {E : Value → World → Prop} {b : Nat} (ho : K.own b) {arr : Array Value} {e : TypeId} {w : World} (hb : w.heap[b]? = some (.cells arr e (0, 0))) : ∀ {n j : Nat} {acc : Array Value}, j + n ≤ arr.size →
    ∀ {Q : Array Value → World → Prop}, Q (acc ++ ((arr.toList.drop j).take n).toArray) w → wq K.P K.Ev E (loadCellsFrom ⟨b, 0, none⟩ j n acc) Q w := by
  intro n
  induction n with
  | zero => intro j acc hj Q hq; simpa [loadCellsFrom] using hq
  | succ n ih =>
    intro j acc hj Q hq
    simp only [loadCellsFrom, wq_bind]
    rw [wq_load]
    have ha : (⟨b, 0, none⟩ : Addr).add j = ⟨b, j, none⟩ := by unfold Addr.add; split <;> simp_all
    rw [ha]
    have hlt : j < arr.size := by omega
    refine ⟨_, (cell?_of hb).trans (Array.getElem?_eq_getElem hlt), G.rd _ _ ho, ih (by omega) ?_⟩
    have : (arr.toList.drop j).take (n + 1) = arr[j] :: (arr.toList.drop (j + 1)).take n := by
      rw [List.drop_eq_getElem_cons (by simpa using hlt), List.take_succ_cons]
      rfl
    rw [this] at hq
    simpa using hq
theorem wq_growV (G : K.Good) (R : Rel K ρ h w) {E : Value → World → Prop} {elem : TypeId} {i : TypeInfo} {z : AV} {zc : List AV} {need sCap sLen n size : Nat} {s x : Value} {old new : List Value} (hi : K.P.info? elem = some i) (hsz : i.size = size) (hz : zero? K.P elem = .ok z) (hc : z.cells? = .ok zc) (hzl : zc.length = size)
    (hold : ∀ {Q' : Array Value → World → Prop} {w' : World}, w'.heap = w.heap → Q' old.toArray w' → wq K.P K.Ev E (Builtin.firstCells size sLen s) Q' w')
    (hnew : ∀ {Q' : Array Value → World → Prop} {w' : World}, Rel K ρ h w' → Q' new.toArray w' → wq K.P K.Ev E (Builtin.firstCells size n x) Q' w')
    (hlen : (old ++ new).length = need * size) (hneed : need ≤ 1048576) {Q : Value → World → Prop}
    (hq : ∀ (newCap : Nat) (w0 : World) (arr : Array Value) (rest : List Value), w0.heap = w.heap → w0.tape = w.tape → w0.os = w.os → w0.output = w.output → arr.toList = old ++ new ++ rest → arr.size = newCap * size → need ≤ newCap →
      Q (.slice (some ⟨w.heap.size, 0, none⟩) need newCap) { w0 with heap := w0.heap.push (.cells arr elem (0, 0)) }) :
    wq K.P K.Ev E (do
      let newCap ← choose (.appendCap need sCap elem)
      askRoom (newCap * (← typeInfo elem).bytes)
      let old ← Builtin.firstCells size sLen s
      let new ← Builtin.firstCells size n x
      let rest := Builtin.zeroCells (← zeroValue elem).cells (newCap - need)
      Pure.pure (.slice (some (← newRow elem (old ++ new ++ rest))) need newCap)) Q w := by
  simp only [wq_bind]
  rw [wq_choose]
  rw [if_neg (by simp [Question.forced])]
  intro nn
  simp only [wq_typeInfo hi]
  have ask : ∀ {m : Nat} {Q' : Unit → World → Prop} {w' : World}, Q' () w' → wq K.P K.Ev E (askRoom m) Q' w' := by
    intro m Q' w' hq'
    unfold askRoom
    simp only [wq_ite, wq_mark, wq_pure]
    split
    · exact ⟨G.noRoom, hq'⟩
    · exact hq'
  refine ask ?_
  have R' : Rel K ρ h { w with drawn := w.drawn + 1 } := R.at rfl
  refine hold rfl ?_
  refine hnew R' ?_
  simp only [wq_zeroValue (ρ := ρ) hz, newRow, wq_bind, wq_newObj, wq_pure]
  have hcut : need ≤ Question.cut (.appendCap need sCap elem) nn := by simp only [Question.cut]; omega
  generalize hcap : Question.cut (.appendCap need sCap elem) nn = newCap at hcut
  refine hq newCap { w with drawn := w.drawn + 1 } _ (Builtin.zeroCells (z.ev ρ).cells (newCap - need)).toList rfl rfl rfl rfl ?_ ?_ hcut
  · simp
  · have e1 : (z.ev ρ).cells.size = size := by rw [cells?_ev hc ρ]; simp [evs_length, hzl]
    have e2 : old.length + new.length = need * size := by simpa using hlen
    simp only [Array.size_append, Builtin.zeroCells, Array.size_map, Array.size_range, List.size_toArray, e1]
    rw [e2, ← Nat.add_mul]
    congr 1
    omega
theorem append_front {E : Value → World → Prop} {Q : Value → World → Prop} {argTypes : Array TypeId} {ty sType xType elem : TypeId} {X : TypeDesc} {base : Option AA} {sl sc : IE} {x : AV} {n size bytes : Nat} {new : List AV} {info : TypeInfo} (h0 : argTypes[0]? = some sType) (h1 : argTypes[1]? = some xType)
    (hX : under? K.P xType = .ok X) (hXn : ∀ k, X = .int k → False) (hS : under? K.P sType = .ok (.slice elem)) (hsz : sizeOf? K.P elem = .ok size) (hinfo : K.P.info? elem = some info) (hib : info.bytes = bytes) (hb0 : 0 < bytes) (hb1 : bytes ≤ 1024) (hnew : appArgs? K.O h size x = .ok (n, new))
    (hlong : (sl.ev ρ).toNat + n ≤ 1048576)
    (hq : wq K.P K.Ev E (if (sl.ev ρ).toNat + n ≤ (sc.ev ρ).toNat then (do
        let new ← Builtin.firstCells size n (x.ev ρ)
        match base.map (AA.ev ρ) with
        | some a => do
          storeCells (a.add ((sl.ev ρ).toNat * size)) new.toList
          Pure.pure (.slice (base.map (AA.ev ρ)) ((sl.ev ρ).toNat + n) (sc.ev ρ).toNat)
        | none => Pure.pure (.slice (base.map (AA.ev ρ)) ((sl.ev ρ).toNat + n) (sc.ev ρ).toNat))
      else (do
        let newCap ← choose (.appendCap ((sl.ev ρ).toNat + n) (sc.ev ρ).toNat elem)
        askRoom (newCap * (← typeInfo elem).bytes)
        let old ← Builtin.firstCells size (sl.ev ρ).toNat (.slice (base.map (AA.ev ρ)) (sl.ev ρ).toNat (sc.ev ρ).toNat)
        let new ← Builtin.firstCells size n (x.ev ρ)
        let rest := Builtin.zeroCells (← zeroValue elem).cells (newCap - ((sl.ev ρ).toNat + n))
        Pure.pure (.slice (some (← newRow elem (old ++ new ++ rest))) ((sl.ev ρ).toNat + n) newCap))) Q w) :
    wq K.P K.Ev E (Builtin.append_ argTypes ty #[(AV.slice base sl sc).ev ρ, x.ev ρ]) Q w := by
  have hX' := under?_ok hX
  clear hX
  unfold Builtin.append_
  simp only [h0, h1, List.getElem?_toArray, List.getElem?_cons_zero, List.getElem?_cons_succ, wq_bind, wq_underlying (under?_ok hS), wq_sizeOf hsz, wq_underlying hX', wq_pure, AV.ev]
  cases X <;> first
    | exact absurd rfl (hXn _)
    | skip
  all_goals simp only [Bool.false_eq_true, if_false]
  all_goals rw [wq_bind]
  all_goals refine wq_lenOf hnew ?_
  all_goals simp only [Bool.not_false, if_true]
  all_goals by_cases hc : (sl.ev ρ).toNat + n ≤ (sc.ev ρ).toNat
  all_goals first
    | (rw [if_pos hc] at hq ⊢; cases base <;> exact hq)
    | (rw [if_neg hc] at hq ⊢; rw [wq_bind, wq_typeInfo hinfo]; rw [if_neg (by rw [hib]; intro hh; exact hh.2.elim id (fun h3 => by omega))]; rw [wq_bind, wq_typeInfo hinfo]; rw [if_neg (by rw [hib]; exact nextslice_small (by omega) hlong hb1)]; exact hq)
theorem allocPre?_sound (R : Rel K ρ h w) (I : Ids K U h) {old s : Nat} {lk : Bool} {n : IE} {fs ws : List (IE × AV)} {cs : List AV} {elem : TypeId} {len : IE} {v : AV} {h' : AH} (ha : allocPre? h old lk s n fs ws cs elem len = .ok (v, h')) (hc : (ABlk.pre lk s n fs ws cs elem (.lit 0)).In U) (hl : len.In U) :
    v.In (plus U h.nb h'.nb) ∧ Grows K U h h' ∧ ∀ (m : Nat) (c : Nat) (w' : World) (arr pre : Array Value) (rest : List Value) (i : TypeInfo), Keeps K.own w w' → w'.heap[m]? = some (.cells arr elem (0, 0)) → (K.own m ∧ ∀ k, K.still m k → lk = true ∧ ∃ i, K.P.info? elem = some i ∧ k < (n.ev ρ).toNat * i.size) → Rel K ρ { h with hp := dropB old h.hp } w' →
      (∀ j b, findB j (dropB old h.hp) = some b → ρ.b j ≠ m) → PreIs K.P ρ s n fs ws elem i pre → arr.toList = wrote ρ pre.toList ws ++ (AV.evs ρ cs ++ rest) → arr.size = c * i.size →
      After K U ρ w h' (fun ρ' => v.ev ρ' = .slice (some ⟨m, 0, none⟩) (len.ev ρ).toNat c) w' := by
  obtain ⟨hp, nb, lim⟩ := h
  simp only [allocPre?] at ha
  split at ha
  · rename_i hlt
    cases ha
    have hnu : ¬ U nb := I.fresh _ (Nat.le_refl _) hlt
    have hnb : plus U nb (nb + 1) nb := .inr ⟨Nat.le_refl _, Nat.lt_succ_self _⟩
    have hc' := ABlk.In.mono (plus_sub (U := U) (a := nb) (b := nb + 1)) hc
    have hin : ABlk.In (plus U nb (nb + 1)) (.pre lk s n fs ws cs elem (.var nb)) := ⟨hc'.1, hc'.2.1, hc'.2.2.1, hc'.2.2.2.1, hnb⟩
    refine ⟨⟨⟨hnb, trivial⟩, IE.In.mono plus_sub hl, hnb⟩, ⟨Nat.le_succ _, rfl, (I.drop old).ins hlt hin⟩, ?_⟩
    intro m c w' arr pre rest inf hk hm ho R' hne hp harr hsz
    have A : Agree U ρ (ρ.upd nb m c) := agree_upd hnu
    have hf : (ABlk.pre lk s n fs ws cs elem (.var nb)).fits K.P (ρ.upd nb m c) arr :=
      ⟨pre, rest, inf, hp.agree A hc.1 hc.2.1 hc.2.2.1, by rw [wrote_agree A _ hc.2.2.1, AV.evs_agree A cs hc.2.2.2.1]; exact harr, by simpa [IE.ev, Env.upd] using hsz⟩
    refine ⟨ρ.upd nb m c, A, Rel.insL R' (I.drop old) hlt hm ho.1 hne (fun k hk' => by have := ho.2 k hk'; rw [← IE.ev_agree A hc.1] at this; exact this) (.inl ⟨arr, rfl, hf⟩), hk, ?_⟩
    have : (len.ev (ρ.upd nb m c)) = len.ev ρ := IE.ev_agree A hl
    simp [AV.ev, AA.ev, BR.ev, IE.ev, Env.upd] at this ⊢
    rw [← this]
  · cases ha
theorem appPre_ok (G : K.Good) (R : Rel K ρ h w) (I : Ids K U h) {argTypes : Array TypeId} {ty sType xType elem : TypeId} {X : TypeDesc} {base : Option AA} {sl sc : IE} {x z : AV} {zc : List AV} {n size bytes : Nat} {new : List AV} {v : AV} {h' : AH} (h0 : argTypes[0]? = some sType) (h1 : argTypes[1]? = some xType)
    (hX : under? K.P xType = .ok X) (hXn : ∀ k, X = .int k → False) (hS : under? K.P sType = .ok (.slice elem)) (hsz : sizeOf? K.P elem = .ok size) (hz : zero? K.P elem = .ok z) (hzc : z.cells? = .ok zc) (hbytes : bytesOf? K.P elem = .ok bytes) (hzl : zc.length = size) (hs0 : 0 < size) (hb0 : 0 < bytes) (hb1 : bytes ≤ 1024)
    (hnew : appArgs? K.O h size x = .ok (n, new)) (hall : new.all (·.oneCell?) = true) (hs : (AV.slice base sl sc).In U) (he : appPre? K.O h base sl sc n size new elem = .ok (v, h')) :
    HOk K U ρ h w (Builtin.append_ argTypes ty #[(AV.slice base sl sc).ev ρ, x.ev ρ]) v h' := by
  have hnl := appArgs?_len hnew
  have hni := appArgs?_in I hnew
  obtain ⟨info, hinfo, hib⟩ := bytesOf?_ok hbytes
  obtain ⟨info', hinfo', his⟩ := sizeOf?_ok hsz
  obtain rfl : info = info' := by rw [hinfo] at hinfo'; exact Option.some.inj hinfo'
  have isz : info.size = size := by rw [← his]
  have hone := oneCells_ev hall ρ
  unfold appPre? at he
  split at he
  rotate_left
  · cases he
  rename_i a
  split at he
  rotate_left
  · cases he
  rename_i i hblk hoff
  split at he
  rotate_left
  · cases he
  rename_i lk s m fs ws cs e c' hfind
  split at he
  rotate_left
  · cases he
  rename_i hok
  unfold preOk? at hok
  simp only [Bool.and_eq_true, decide_eq_true_eq] at hok
  obtain ⟨⟨⟨⟨hee, hcc⟩, hk⟩, hsl⟩, hdec⟩ := hok
  have hee' := hee.symm
  subst hee'
  have hcc' := IE.eqb_eq hcc
  subst hcc'
  have hk' := Nat.eq_of_beq_eq_true hk
  have hsl' := IE.eqb_eq hsl
  subst hsl'
  generalize hkk : cs.length / size = k at *
  have hlong : ((lenPlus m k).ev ρ).toNat + n ≤ 1048576 := by
    split at hdec
    · rename_i b hd
      subst hdec
      have := dec_ev R hd
      have h2 : ((((lenPlus m k).ev ρ).toNat : Int) + (n : Int) ≤ 1048576) := of_decide_eq_true this
      omega
    · cases hdec
  have hsLen : ((lenPlus m k).ev ρ).toNat = (m.ev ρ).toNat + k := lenPlus_ev ρ m k
  obtain ⟨arr, ha1, pre, rest, i1, hp, hf1, hf3⟩ := R.arr hfind rfl
  obtain rfl : info = i1 := by have := hp.info; rw [hinfo] at this; exact Option.some.inj this
  have hown := R.own _ _ hfind rfl
  have hns : ∀ k, K.still (ρ.b i) k → lk = true ∧ ∃ i, K.P.info? elem = some i ∧ k < (m.ev ρ).toNat * i.size := fun n hs => R.lent _ _ hfind n hs
  have hbi := I.hp _ _ hfind
  generalize hLen : ((lenPlus m k).ev ρ).toNat = sLen at *
  have hns2 : ∀ k, sLen * size + 0 ≤ k → ¬ K.still (ρ.b i) k := fun k hk2 hs => by
    obtain ⟨_, i2, h2, h3⟩ := hns k hs
    obtain rfl : info = i2 := by rw [hinfo] at h2; exact Option.some.inj h2
    rw [isz] at h3
    have : (m.ev ρ).toNat * size ≤ sLen * size := Nat.mul_le_mul_right _ (by omega)
    omega
  obtain ⟨V, hV⟩ : ∃ V, V = wrote ρ pre.toList ws ++ AV.evs ρ cs := ⟨_, rfl⟩
  have hVl : V.length = sLen * size := by
    rw [hV, List.length_append, wrote_length, evs_length, ← hk', Array.length_toList, hp.size, isz, hsLen, Nat.add_mul]
  have hf1' : arr.toList = V ++ rest := by rw [hf1, hV, List.append_assoc]
  have hasz : arr.size = sLen * size + rest.length := by
    have := congrArg List.length hf1'
    rw [List.length_append, hVl] at this
    simpa using this
  have hcap : sLen ≤ (sc.ev ρ).toNat := by
    have h5 : sLen * size ≤ (sc.ev ρ).toNat * size := by rw [← isz, ← hf3, isz]; omega
    exact Nat.le_of_mul_le_mul_right h5 hs0
  have eaddr : a.ev ρ = ⟨ρ.b i, 0, none⟩ := by simp [AA.ev, hblk, hoff, BR.ev, IE.ev]
  have front := fun {E : Value → World → Prop} {Q : Value → World → Prop} => append_front (K := K) (ρ := ρ) (h := h) (w := w) (E := E) (Q := Q) (ty := ty) (base := some a) (sl := lenPlus m k) (sc := sc) (x := x) h0 h1 hX hXn hS hsz hinfo hib hb0 hb1 hnew (by rw [hLen]; exact hlong)
  rw [hLen] at front
  have new? : ∀ {E : Value → World → Prop} {Q' : Array Value → World → Prop} {w' : World}, Rel K ρ h w' → Q' (AV.evs ρ new).toArray w' → wq K.P K.Ev E (Builtin.firstCells size n (x.ev ρ)) Q' w' := fun R' hq' => wq_firstCells R' G hnew hq'
  split at he
  · rw [pure_ok] at he
    cases he
    have hnil : new = [] := List.eq_nil_of_length_eq_zero (by simpa using hnl)
    subst hnil
    refine HOk.pure R I hs fun {E Q} hq => front ?_
    rw [if_pos (by omega), wq_bind]
    refine new? R ?_
    simp only [Option.map_some, AV.evs, wq_bind, storeCells, wq_pure]
    have : (AV.slice (some a) (lenPlus m k) sc).ev ρ = .slice (some (a.ev ρ)) (sLen + 0) (sc.ev ρ).toNat := by simp only [AV.ev, Option.map_some, hLen]; rfl
    rw [← this]
    exact hq
  · rename_i hn0
    have hin : (ABlk.pre lk s m fs ws (cs ++ new) elem (.lit 0)).In U := ⟨hbi.1, hbi.2.1, hbi.2.2.1, Ins_iff.2 fun x hx' => by
      rcases List.mem_append.1 hx' with h' | h'
      · exact Ins_iff.1 hbi.2.2.2.1 _ h'
      · exact Ins_iff.1 hni _ h', trivial⟩
    obtain ⟨r1, r2, r3⟩ := allocPre?_sound R I he hin (lenPlus_in _ hbi.1)
    have hLen2 : ((lenPlus m (k + n)).ev ρ).toNat = sLen + n := by rw [lenPlus_ev]; omega
    rw [hLen2] at r3
    refine ⟨r1, r2, fun {E Q} hq => front ?_⟩
    by_cases hfit : sLen + n ≤ (sc.ev ρ).toNat
    · rw [if_pos hfit, wq_bind]
      refine new? R ?_
      simp only [Option.map_some, wq_bind, eaddr]
      have eadd : (⟨ρ.b i, 0, none⟩ : Addr).add (sLen * size) = ⟨ρ.b i, sLen * size, none⟩ := by unfold Addr.add; split <;> simp_all
      rw [eadd]
      have hroom : sLen * size + 0 + (AV.evs ρ new).length ≤ arr.size := by
        rw [hf3, isz, evs_length, hnl, Nat.add_zero, ← Nat.add_mul]
        exact Nat.mul_le_mul_right _ hfit
      refine wq_storeCells_arr G hown hns2 ha1 hroom hone ?_
      intro w' arr' q1 q2 q3 q4 q5 q6 q7 q8 q9
      have hdrop : ∀ j b, findB j (dropB i h.hp) = some b → findB j h.hp = some b ∧ j ≠ i := fun j b hb => by
        rw [findB_dropB _ _ _ I.nodup] at hb
        split at hb
        · cases hb
        · rename_i hne; exact ⟨hb, hne⟩
      have hneb : ∀ j b, findB j (dropB i h.hp) = some b → ρ.b j ≠ ρ.b i := fun j b hb e => (hdrop j b hb).2 (R.inj _ _ _ _ (hdrop j b hb).1 hfind e)
      have Kw : Keeps K.own w w' := ⟨fun m hm => q2 m (fun e => hm (by rw [e]; exact hown)), by rw [q3]; exact Nat.le_refl _, q4, q5, q6⟩
      have Rw : Rel K ρ { h with hp := dropB i h.hp } w' :=
        ⟨fun j b hb => by obtain ⟨arr2, x1, x2⟩ := R.blk j b (hdrop j b hb).1; exact ⟨arr2, by rw [q2 _ (hneb j b hb)]; exact x1, x2⟩,
         fun j b hb => R.own' j b (hdrop j b hb).1, fun j k b c hb hc e => R.inj j k b c (hdrop j b hb).1 (hdrop k c hc).1 e, R.bs, R.is,
         fun p hp => by
          obtain ⟨m1, m2, m3⟩ := R.mem p hp
          refine ⟨m1, ?_, m3⟩
          simp only [World.cell?] at m2 ⊢
          rw [q2 _ (fun e => m1 (by rw [e]; exact hown))]; exact m2,
         fun m hm => R.room m (by rw [q3] at hm; exact hm), fun j b hb => R.lent j b (hdrop j b hb).1, fun b n hs => by rw [q3]; exact R.low b n hs⟩
      have harr : arr'.toList = wrote ρ pre.toList ws ++ (AV.evs ρ (cs ++ new) ++ arr'.toList.drop (sLen * size + n * size)) := by
        have hl : V ++ AV.evs ρ new = arr'.toList.take (sLen * size + n * size) := by
          refine List.ext_getElem? fun j => ?_
          rw [List.getElem?_take]
          by_cases hm : j < sLen * size
          · rw [List.getElem?_append_left (by rw [hVl]; exact hm), if_pos (by omega), (show arr'.toList[j]? = arr'[j]? from Array.getElem?_toList), q8 j (by omega), (show arr[j]? = arr.toList[j]? from Array.getElem?_toList.symm), hf1', List.getElem?_append_left (by rw [hVl]; exact hm)]
          · rw [List.getElem?_append_right (by rw [hVl]; omega), hVl]
            by_cases hm2 : j < sLen * size + n * size
            · rw [if_pos hm2, (show arr'.toList[j]? = arr'[j]? from Array.getElem?_toList)]
              have := q9 (j - sLen * size) (by rw [evs_length, hnl]; omega)
              rw [← this]
              congr 1
              omega
            · rw [if_neg hm2, List.getElem?_eq_none (by rw [evs_length, hnl]; omega)]
        rw [evs_append, ← List.append_assoc, ← List.append_assoc, ← hV, hl]; exact (List.take_append_drop _ _).symm
      obtain ⟨ρ', a1, a2, a3, a4⟩ := r3 (ρ.b i) (sc.ev ρ).toNat w' arr' pre _ info Kw q1 ⟨hown, hns⟩ Rw hneb hp harr (by rw [q7]; exact hf3)
      exact hq _ _ ⟨ρ', a1, a2, a3, a4.symm⟩
    · rw [if_neg hfit]
      have hold : ∀ {E : Value → World → Prop} {Q' : Array Value → World → Prop} {w' : World}, w'.heap = w.heap → Q' V.toArray w' → wq K.P K.Ev E (Builtin.firstCells size sLen (.slice (some (a.ev ρ)) sLen (sc.ev ρ).toNat)) Q' w' := by
        intro E Q' w' hh hq'
        simp only [Builtin.firstCells, loadCells, eaddr]
        refine wq_loadCells_arr G hown (by rw [hh]; exact ha1) (by omega) ?_
        have : (arr.toList.drop 0).take (sLen * size) = V := by
          rw [List.drop_zero, hf1', List.take_append_of_le_length (by omega), List.take_of_length_le (by omega)]
        rw [this]
        simpa using hq'
      refine wq_growV G R hinfo isz hz hzc hzl (fun hh => hold hh) (fun R' => new? R') (by rw [List.length_append, hVl, evs_length, hnl, Nat.add_mul]) hlong ?_
      intro newCap w0 arr2 rest2 e1 e2 e3 e4 e5 e6 e7
      have R0 : Rel K ρ h w0 := R.at e1
      obtain ⟨Rp, Kp⟩ := R0.push (.cells arr2 elem (0, 0))
      have K0 : Keeps K.own w w0 := ⟨fun _ _ => by rw [e1], by rw [e1]; exact Nat.le_refl _, e2, e3, e4⟩
      obtain ⟨ρ', a1, a2, a3, a4⟩ := r3 w.heap.size newCap { w0 with heap := w0.heap.push (.cells arr2 elem (0, 0)) } arr2 pre rest2 info (K0.trans Kp) (by rw [← e1]; simp) ⟨R.room _ (Nat.le_refl _), fun n hs => by have := R.low _ n hs; omega⟩ (Rp.drop I i)
        (fun j b hb e => by
          rw [findB_dropB _ _ _ I.nodup] at hb
          split at hb
          · cases hb
          · obtain ⟨arr', ha', _⟩ := R.blk j b hb; have := heap_lt ha'; omega) hp (by rw [e5, hV, evs_append, List.append_assoc, List.append_assoc, List.append_assoc]) (by rw [isz]; exact e6)
      exact hq _ _ ⟨ρ', a1, a2, a3, a4.symm⟩
theorem append?_ok (G : K.Good) (R : Rel K ρ h w) (I : Ids K U h) {argTypes : Array TypeId} {ty : TypeId} {s x v : AV} {h' : AH} (hs : s.In U) (hx : x.In U) (he : append? K.P h argTypes s x K.O = .ok (v, h')) :
    HOk K U ρ h w (Builtin.append_ argTypes ty #[s.ev ρ, x.ev ρ]) v h' := by
  unfold append? at he
  split at he
  · rename_i sType xType h0 h1
    simp only [bind_ok] at he
    obtain ⟨X, hX, he⟩ := he
    split at he
    · cases he
    · rename_i hXn
      simp only [bind_ok] at he
      obtain ⟨S, hS, he⟩ := he
      split at he
      · rename_i elem
        simp only [bind_ok] at he
        obtain ⟨size, hsz, z, hz, zc, hzc, bytes, hbytes, he⟩ := he
        split at he
        · rename_i hcond
          obtain ⟨hzl, hs0, hb0, hb1⟩ := hcond
          simp only [bind_ok] at he
          obtain ⟨⟨n, new⟩, hnew, he⟩ := he
          split at he
          · rename_i hall
            split at he
            · rename_i base sl sc
              split at he
              rotate_left
              · exact appPre_ok G R I h0 h1 hX (fun k e => hXn k e) hS hsz hz hzc hbytes hzl hs0 hb0 hb1 hnew hall hs he
              rename_i sn
              simp only [bind_ok] at he
              obtain ⟨sLen, hsl, he⟩ := he
              have hsl' := litNat?_ok hsl
              cases hsl'
              split at he
              · rename_i hlong
                have hnl := appArgs?_len hnew
                have hni := appArgs?_in I hnew
                obtain ⟨info, hinfo, hib⟩ := bytesOf?_ok hbytes
                obtain ⟨info', hinfo', his⟩ := sizeOf?_ok hsz
                obtain rfl : info = info' := by rw [hinfo] at hinfo'; exact Option.some.inj hinfo'
                have front : ∀ {E : Value → World → Prop} {Q : Value → World → Prop}, wq K.P K.Ev E (if sLen + n ≤ (sc.ev ρ).toNat then (do
                      let new ← Builtin.firstCells size n (x.ev ρ)
                      match base.map (AA.ev ρ) with
                      | some a => do
                        storeCells (a.add (sLen * size)) new.toList
                        Pure.pure (.slice (base.map (AA.ev ρ)) (sLen + n) (sc.ev ρ).toNat)
                      | none => Pure.pure (.slice (base.map (AA.ev ρ)) (sLen + n) (sc.ev ρ).toNat))
                    else (do
                      let newCap ← choose (.appendCap (sLen + n) (sc.ev ρ).toNat elem)
                      askRoom (newCap * (← typeInfo elem).bytes)
                      let old ← Builtin.firstCells size sLen (.slice (base.map (AA.ev ρ)) sLen (sc.ev ρ).toNat)
                      let new ← Builtin.firstCells size n (x.ev ρ)
                      let rest := Builtin.zeroCells (← zeroValue elem).cells (newCap - (sLen + n))
                      Pure.pure (.slice (some (← newRow elem (old ++ new ++ rest))) (sLen + n) newCap))) Q w →
                    wq K.P K.Ev E (Builtin.append_ argTypes ty #[(AV.slice base (.lit (.ofNat sLen)) sc).ev ρ, x.ev ρ]) Q w := by
                  intro E Q hq
                  have hX' := under?_ok hX
                  clear hX he
                  unfold Builtin.append_
                  simp only [h0, h1, List.getElem?_toArray, List.getElem?_cons_zero, List.getElem?_cons_succ, wq_bind, wq_underlying (under?_ok hS), wq_sizeOf hsz, wq_underlying hX', wq_pure, AV.ev, IE.ev]
                  cases X <;> first
                    | exact absurd rfl (hXn _)
                    | skip
                  all_goals simp only [Bool.false_eq_true, if_false]
                  all_goals rw [wq_bind]
                  all_goals refine wq_lenOf hnew ?_
                  all_goals have e0 : (Int.ofNat sLen).toNat = sLen := rfl
                  all_goals simp only [e0, Bool.not_false, if_true]
                  all_goals by_cases hc : sLen + n ≤ (sc.ev ρ).toNat
                  all_goals first
                    | (rw [if_pos hc] at hq ⊢; cases base <;> exact hq)
                    | (rw [if_neg hc] at hq ⊢; rw [wq_bind, wq_typeInfo hinfo]; rw [if_neg (by rw [hib]; intro hh; exact hh.2.elim id (fun h3 => by omega))]; rw [wq_bind, wq_typeInfo hinfo]; rw [if_neg (by rw [hib]; exact nextslice_small (by omega) hlong hb1)]; exact hq)
                have hone := oneCells_ev hall ρ
                have new? : ∀ {E : Value → World → Prop} {Q' : Array Value → World → Prop} {w' : World}, Rel K ρ h w' → Q' (AV.evs ρ new).toArray w' → wq K.P K.Ev E (Builtin.firstCells size n (x.ev ρ)) Q' w' := fun R' hq' => wq_firstCells R' G hnew hq'
                have isz : info.size = size := by rw [← his]
                have old? : ∀ {old : List AV}, appOld? K.O h base sLen size = .ok old →
                    old.length = sLen * size ∧ AV.Ins U old ∧ ∀ {E : Value → World → Prop} {Q' : Array Value → World → Prop} {w' : World}, Rel K ρ h w' → Q' (AV.evs ρ old).toArray w' → wq K.P K.Ev E (Builtin.firstCells size sLen (.slice (base.map (AA.ev ρ)) sLen (sc.ev ρ).toNat)) Q' w' := by
                  intro old ho
                  unfold appOld? at ho
                  split at ho
                  · split at ho
                    · rename_i h00
                      cases ho
                      exact ⟨by simp [h00], trivial, fun R' hq' => hq'⟩
                    · cases ho
                  · refine ⟨loadN_length ho, loadN_in I ho, fun R' hq' => ?_⟩
                    simp only [Option.map_some, Builtin.firstCells, loadCells]
                    exact loadN_sound R' G ho (by simpa using hq')
                split at he
                ·
                  rename_i cap
                  have ec : ((IE.lit (Int.ofNat cap)).ev ρ).toNat = cap := rfl
                  split at he
                  · rename_i hle
                    unfold appFit? at he
                    split at he
                    · rename_i a
                      simp only [bind_ok, pure_ok] at he
                      obtain ⟨h2, hst, e⟩ := he
                      cases e
                      have hnb := storeN_nb hst
                      have I' := storeN_ids (AA.add_in _ hs.1) I hst hni
                      refine ⟨⟨AA.In.mono plus_sub hs.1, trivial, trivial⟩, Grows.of_same I' hnb.1 hnb.2, fun {E Q} hq => front ?_⟩
                      rw [ec, if_pos hle, wq_bind]
                      refine new? R ?_
                      simp only [Option.map_some, wq_bind]
                      rw [← AA.add_ev]
                      refine storeN_sound G R hst fun w' r1 r2 _ _ => ?_
                      exact hq _ _ ⟨ρ, Agree.refl _ _, r1, r2, rfl⟩
                    · split at he
                      · rename_i hn0
                        rw [pure_ok] at he
                        cases he
                        subst hn0
                        refine HOk.pure R I ⟨trivial, trivial, trivial⟩ fun {E Q} hq => front ?_
                        rw [ec, if_pos hle, wq_bind]
                        refine new? R ?_
                        exact hq
                      · cases he
                  · rename_i hle
                    unfold appGrow? at he
                    simp only [bind_ok] at he
                    obtain ⟨old, hold, ha⟩ := he
                    obtain ⟨o1, o2, o3⟩ := old? hold
                    have hin : AV.Ins U (old ++ new) := Ins_iff.2 fun a ha => by
                      rcases List.mem_append.1 ha with h' | h'
                      · exact Ins_iff.1 o2 _ h'
                      · exact Ins_iff.1 hni _ h'
                    obtain ⟨r1, r2, r3⟩ := allocRow?_sound R I ha hin
                    refine ⟨r1, r2, fun {E Q} hq => front ?_⟩
                    rw [ec, if_neg hle]
                    refine wq_grow G R hinfo isz hz hzc hzl (fun R' => o3 R') (fun R' => new? R') (by rw [List.length_append, o1, hnl, Nat.add_mul]) hlong ?_
                    intro newCap w0 arr rest e1 e2 e3 e4 e5 e6 e7
                    have R0 : Rel K ρ h w0 := R.at e1
                    obtain ⟨Rp, Kp⟩ := R0.push (.cells arr elem (0, 0))
                    have K0 : Keeps K.own w w0 := ⟨fun _ _ => by rw [e1], by rw [e1]; exact Nat.le_refl _, e2, e3, e4⟩
                    obtain ⟨ρ', a1, a2, a3, a4⟩ := r3 w.heap.size newCap { w0 with heap := w0.heap.push (.cells arr elem (0, 0)) } arr rest info (K0.trans Kp) (by rw [← e1]; simp) ⟨R.room _ (Nat.le_refl _), fun n hs => by have := R.low _ n hs; omega⟩ Rp
                      (fun j b hb e => by obtain ⟨arr', ha', _⟩ := R.blk j b hb; have := heap_lt ha'; omega) e5 hinfo (by rw [isz]; exact e6)
                    exact hq _ _ ⟨ρ', a1, a2, a3, a4.symm⟩
                ·
                  unfold appRow? at he
                  split at he
                  · rename_i a
                    split at he
                    · rename_i i hblk hoff
                      split at he
                      · rename_i cs e c' hfind
                        split at he
                        · rename_i hc3
                          obtain ⟨hee, hcc, hlen⟩ := hc3
                          have hee' := hee.symm
                          subst hee'
                          have hcc' := IE.eqb_eq hcc
                          subst hcc'
                          obtain ⟨arr, ha1, rest, i1, hf1, hf2, hf3⟩ := R.arr hfind rfl
                          obtain rfl : info = i1 := by rw [hinfo] at hf2; exact Option.some.inj hf2
                          have hown := R.own _ _ hfind rfl
                          have hns : ∀ n, ¬ K.still (ρ.b i) n := fun n hs => by have := R.lent _ _ hfind n hs; cases this
                          have hbi := I.hp _ _ hfind
                          have hasz : arr.size = cs.length + rest.length := by
                            have := congrArg List.length hf1
                            simpa [evs_length] using this
                          have hcap : sLen ≤ (sc.ev ρ).toNat := by
                            have h5 : sLen * size ≤ (sc.ev ρ).toNat * size := by rw [← isz, ← hf3, isz]; omega
                            exact Nat.le_of_mul_le_mul_right h5 hs0
                          have eaddr : a.ev ρ = ⟨ρ.b i, 0, none⟩ := by simp [AA.ev, hblk, hoff, BR.ev, IE.ev]
                          split at he
                          · rename_i hn0
                            rw [pure_ok] at he
                            cases he
                            subst hn0
                            have hnil : new = [] := List.eq_nil_of_length_eq_zero (by simpa using hnl)
                            subst hnil
                            refine HOk.pure R I hs fun {E Q} hq => front ?_
                            rw [if_pos (by omega), wq_bind]
                            refine new? R ?_
                            simp only [Option.map_some, AV.evs, wq_bind, storeCells, wq_pure]
                            exact hq
                          · rename_i hn0
                            have hin : AV.Ins U (cs.take (sLen * size) ++ new) := Ins_iff.2 fun x hx' => by
                              rcases List.mem_append.1 hx' with h' | h'
                              · exact Ins_iff.1 hbi.1 _ (List.mem_of_mem_take h')
                              · exact Ins_iff.1 hni _ h'
                            obtain ⟨r1, r2, r3⟩ := allocRow?_sound R I he hin
                            refine ⟨r1, r2, fun {E Q} hq => front ?_⟩
                            by_cases hfit : sLen + n ≤ (sc.ev ρ).toNat
                            ·
                              rw [if_pos hfit, wq_bind]
                              refine new? R ?_
                              simp only [Option.map_some, wq_bind, eaddr]
                              have eadd : (⟨ρ.b i, 0, none⟩ : Addr).add (sLen * size) = ⟨ρ.b i, sLen * size, none⟩ := by unfold Addr.add; split <;> simp_all
                              rw [eadd]
                              have hroom : sLen * size + 0 + (AV.evs ρ new).length ≤ arr.size := by
                                rw [hf3, isz, evs_length, hnl, Nat.add_zero, ← Nat.add_mul]
                                exact Nat.mul_le_mul_right _ hfit
                              refine wq_storeCells_arr G hown (fun n _ => hns n) ha1 hroom hone ?_
                              intro w' arr' q1 q2 q3 q4 q5 q6 q7 q8 q9
                              have hdrop : ∀ j b, findB j (dropB i h.hp) = some b → findB j h.hp = some b ∧ j ≠ i := fun j b hb => by
                                rw [findB_dropB _ _ _ I.nodup] at hb
                                split at hb
                                · cases hb
                                · rename_i hne; exact ⟨hb, hne⟩
                              have hneb : ∀ j b, findB j (dropB i h.hp) = some b → ρ.b j ≠ ρ.b i := fun j b hb e => (hdrop j b hb).2 (R.inj _ _ _ _ (hdrop j b hb).1 hfind e)
                              have Kw : Keeps K.own w w' := ⟨fun m hm => q2 m (fun e => hm (by rw [e]; exact hown)), by rw [q3]; exact Nat.le_refl _, q4, q5, q6⟩
                              have Rw : Rel K ρ { h with hp := dropB i h.hp } w' :=
                                ⟨fun j b hb => by obtain ⟨arr2, x1, x2⟩ := R.blk j b (hdrop j b hb).1; exact ⟨arr2, by rw [q2 _ (hneb j b hb)]; exact x1, x2⟩,
                                 fun j b hb => R.own' j b (hdrop j b hb).1, fun j k b c hb hc e => R.inj j k b c (hdrop j b hb).1 (hdrop k c hc).1 e, R.bs, R.is,
                                 fun p hp => by
                                  obtain ⟨m1, m2, m3⟩ := R.mem p hp
                                  refine ⟨m1, ?_, m3⟩
                                  simp only [World.cell?] at m2 ⊢
                                  rw [q2 _ (fun e => m1 (by rw [e]; exact hown))]; exact m2,
                                 fun m hm => R.room m (by rw [q3] at hm; exact hm), fun j b hb => R.lent j b (hdrop j b hb).1, fun b n hs => by rw [q3]; exact R.low b n hs⟩
                              have harr : arr'.toList = AV.evs ρ (cs.take (sLen * size) ++ new) ++ arr'.toList.drop (sLen * size + n * size) := by
                                have hl : (AV.evs ρ (cs.take (sLen * size) ++ new)) = arr'.toList.take (sLen * size + n * size) := by
                                  refine List.ext_getElem? fun m => ?_
                                  rw [List.getElem?_take]
                                  rw [evs_append]
                                  have hl1 : (AV.evs ρ (cs.take (sLen * size))).length = sLen * size := by rw [evs_length, List.length_take]; omega
                                  by_cases hm : m < sLen * size
                                  · rw [List.getElem?_append_left (by rw [hl1]; exact hm), if_pos (by omega), evs_get, List.getElem?_take, if_pos hm, (show arr'.toList[m]? = arr'[m]? from Array.getElem?_toList), q8 m (by omega), (show arr[m]? = arr.toList[m]? from Array.getElem?_toList.symm), hf1, List.getElem?_append_left (by rw [evs_length]; omega), evs_get]
                                  · rw [List.getElem?_append_right (by rw [hl1]; omega), hl1]
                                    by_cases hm2 : m < sLen * size + n * size
                                    · rw [if_pos hm2, (show arr'.toList[m]? = arr'[m]? from Array.getElem?_toList)]
                                      have := q9 (m - sLen * size) (by rw [evs_length, hnl]; omega)
                                      rw [← this]
                                      congr 1
                                      omega
                                    · rw [if_neg hm2, List.getElem?_eq_none (by rw [evs_length, hnl]; omega)]
                                rw [hl]; exact (List.take_append_drop _ _).symm
                              obtain ⟨ρ', a1, a2, a3, a4⟩ := r3 (ρ.b i) (sc.ev ρ).toNat w' arr' _ info Kw q1 ⟨hown, hns⟩ Rw hneb harr hinfo (by rw [q7]; exact hf3)
                              exact hq _ _ ⟨ρ', a1, a2, a3, a4.symm⟩
                            ·
                              rw [if_neg hfit]
                              have hold : ∀ {E : Value → World → Prop} {Q' : Array Value → World → Prop} {w' : World}, Rel K ρ h w' → Q' (AV.evs ρ (cs.take (sLen * size))).toArray w' → wq K.P K.Ev E (Builtin.firstCells size sLen (.slice (some (a.ev ρ)) sLen (sc.ev ρ).toNat)) Q' w' := by
                                intro E Q' w' R' hq'
                                have hl : ∀ (m j : Nat), j + m ≤ cs.length → loadN K.O h a m j = .ok ((cs.drop j).take m) := by
                                  intro m
                                  induction m with
                                  | zero => intro j _; simp [loadN]
                                  | succ m ih =>
                                    intro j hj
                                    have h1 : load1 K.O h (a.add j) = .ok cs[j] := by
                                      unfold load1 load0
                                      have : (a.add j) = ⟨.dyn i, .lit (.ofNat j)⟩ := by
                                        simp only [AA.add, hblk, hoff, addN, Nat.zero_add]
                                      rw [this]
                                      simp only [hfind, ABlk.cs]
                                      rw [List.getElem?_eq_getElem (by omega)]
                                    simp only [loadN, h1]
                                    rw [ih (j + 1) (by omega)]
                                    simp only
                                    rw [List.drop_eq_getElem_cons (by omega : j < cs.length), List.take_succ_cons]
                                simp only [Builtin.firstCells, loadCells]
                                exact loadN_sound R' G (hl (sLen * size) 0 (by omega)) (by simpa using hq')
                              refine wq_grow G R hinfo isz hz hzc hzl (fun R' => hold R') (fun R' => new? R') (by rw [List.length_append, List.length_take, hnl, Nat.add_mul, Nat.min_eq_left hlen]) hlong ?_
                              intro newCap w0 arr2 rest2 e1 e2 e3 e4 e5 e6 e7
                              have R0 : Rel K ρ h w0 := R.at e1
                              obtain ⟨Rp, Kp⟩ := R0.push (.cells arr2 elem (0, 0))
                              have K0 : Keeps K.own w w0 := ⟨fun _ _ => by rw [e1], by rw [e1]; exact Nat.le_refl _, e2, e3, e4⟩
                              obtain ⟨ρ', a1, a2, a3, a4⟩ := r3 w.heap.size newCap { w0 with heap := w0.heap.push (.cells arr2 elem (0, 0)) } arr2 rest2 info (K0.trans Kp) (by rw [← e1]; simp) ⟨R.room _ (Nat.le_refl _), fun n hs => by have := R.low _ n hs; omega⟩ (Rp.drop I i)
                                (fun j b hb e => by
                                  rw [findB_dropB _ _ _ I.nodup] at hb
                                  split at hb
                                  · cases hb
                                  · obtain ⟨arr', ha', _⟩ := R.blk j b hb; have := heap_lt ha'; omega) e5 hinfo (by rw [isz]; exact e6)
                              exact hq _ _ ⟨ρ', a1, a2, a3, a4.symm⟩
                        · cases he
                      · cases he
                    · cases he
                  · cases he
              · cases he
            · cases he
          · cases he
        · cases he
      · cases he
  · cases he
end
end Go.Proofs.YtojifefdokekpaaDoor.SX
