/-
  The operations that make memory.
-/
import Derived.Test.YtcpiafgkmakdiaaSxOp5
import Derived.Laws.Append
import Derived.IntWalk
set_option linter.unusedSectionVars false
set_option linter.unusedVariables false
set_option linter.unusedSimpArgs false
namespace Go.Proofs.Ytcpiafgkmakdiaa.SX

/-- What is asked of an operation that yields a value and may make memory. -/
structure HOk (K : Ctx) (U : Nat → Prop) (ρ : Env) (h : AH) (w : World) (s : Sem Value) (v : AV) (h' : AH) : Prop where
  mem : v.In (plus U h.nb h'.nb)
  grows : Grows K U h h'
  run : ∀ {E : Value → World → Prop} {Q : Value → World → Prop}, (∀ x w', After K U ρ w h' (fun ρ' => x = v.ev ρ') w' → Q x w') → wq K.P K.Ev E s Q w

section
variable {K : Ctx} {ρ : Env} {h : AH} {w : World} {U : Nat → Prop}

theorem HOk.pure (R : Rel K ρ h w) (I : Ids K U h) {s : Sem Value} {v : AV} (hi : v.In U) (hw : ∀ {E : Value → World → Prop} {Q : Value → World → Prop}, Q (v.ev ρ) w → wq K.P K.Ev E s Q w) : HOk K U ρ h w s v h :=
  ⟨AV.In.mono plus_sub _ hi, Grows.refl I, fun hq => hw (hq _ _ (After.same R rfl))⟩

theorem wq_newVar_of {E : Value → World → Prop} {t : TypeId} {v : Value} {cs : Array Value} (hc : v.cells = cs) {Q : Addr → World → Prop} (hq : Q ⟨w.heap.size, 0, none⟩ { w with heap := w.heap.push (.cells cs t (0, 0)) }) : wq K.P K.Ev E (newVar t v) Q w := by
  simp only [newVar, newRow, wq_bind, wq_newObj, hc]
  exact hq

theorem alloc_ok (R : Rel K ρ h w) (I : Ids K U h) {elem : TypeId} {z v : AV} {cs : List AV} {h' : AH} (hz : zero? K.P elem = .ok z) (hc : z.cells? = .ok cs) (ha : alloc? h (.cells cs elem) = .ok (v, h')) :
    HOk K U ρ h w (Instr.alloc elem true (.tuple #[])) v h' := by
  obtain ⟨_, h1, h2, h3⟩ := alloc?_sound R I ha (cells?_in hc (zero?_in hz))
  refine ⟨h1, h2, fun {E Q} hq => ?_⟩
  simp only [Instr.alloc, wq_bind, wq_zeroValue (ρ := ρ) hz]
  refine wq_newVar_of (cells?_ev hc ρ) ?_
  obtain ⟨ρ', a1, a2, a3, a4⟩ := h3 (AV.evs ρ cs).toArray (by simp [ABlk.fits])
  exact hq _ _ ⟨ρ', a1, a2, a3, a4.symm⟩

theorem box_ok (R : Rel K ρ h w) (I : Ids K U h) {elem : TypeId} {x v : AV} {cs : List AV} {h' : AH} (hx : x.In U) (hc : x.cells? = .ok cs) (ha : alloc? h (.cells cs elem) = .ok (v, h')) :
    HOk K U ρ h w (Instr.box elem (x.ev ρ)) v h' := by
  obtain ⟨_, h1, h2, h3⟩ := alloc?_sound R I ha (cells?_in hc hx)
  refine ⟨h1, h2, fun {E Q} hq => ?_⟩
  simp only [Instr.box, wq_bind]
  refine wq_newVar_of (cells?_ev hc ρ) ?_
  obtain ⟨ρ', a1, a2, a3, a4⟩ := h3 (AV.evs ρ cs).toArray (by simp [ABlk.fits])
  exact hq _ _ ⟨ρ', a1, a2, a3, a4.symm⟩

/-! ### Rows of zero values -/
theorem repl_length : ∀ (n : Nat) (l : List AV), (repl n l).length = n * l.length
  | 0, l => by simp [repl]
  | n + 1, l => by simp [repl, repl_length n l, Nat.succ_mul]; omega
theorem repl_in {l : List AV} (hl : AV.Ins U l) : ∀ n, AV.Ins U (repl n l)
  | 0 => trivial
  | n + 1 => Ins_iff.2 fun a ha => by
    simp only [repl, List.mem_append] at ha
    rcases ha with ha | ha
    · exact Ins_iff.1 hl _ ha
    · exact Ins_iff.1 (repl_in hl n) _ ha

theorem range_mod (l : List Value) (hl : 0 < l.length) : ∀ n : Nat, (List.range (n * l.length)).map (fun i => l.toArray[i % l.length]!) = (List.replicate n l).flatten
  | 0 => by simp
  | n + 1 => by
    have e : (n + 1) * l.length = l.length + n * l.length := by rw [Nat.succ_mul, Nat.add_comm]
    rw [e, List.range_add, List.map_append, List.map_map, List.replicate_succ, List.flatten_cons]
    congr 1
    · refine List.ext_getElem (by simp) fun i h1 h2 => ?_
      simp only [List.length_map, List.length_range] at h1
      simp [Nat.mod_eq_of_lt h1, List.getElem?_eq_getElem h1]
    · rw [← range_mod l hl n]
      refine List.map_congr_left fun i _ => ?_
      simp

theorem repl_ev (ρ : Env) : ∀ (n : Nat) (l : List AV), AV.evs ρ (repl n l) = (List.replicate n (AV.evs ρ l)).flatten
  | 0, l => by simp [repl, AV.evs]
  | n + 1, l => by simp [repl, evs_append, repl_ev ρ n l, List.replicate_succ]

theorem zeros_arr (ρ : Env) {z : AV} {zc : List AV} {size n : Nat} (hc : z.cells? = .ok zc) (hs : zc.length = size) (h0 : 0 < size) :
    (Array.range (n * size)).map (fun i => (z.ev ρ).cells[i % (z.ev ρ).cells.size]!) = (AV.evs ρ (repl n zc)).toArray := by
  rw [cells?_ev hc ρ]
  have hl : (AV.evs ρ zc).length = size := by rw [evs_length, hs]
  have h1 : (AV.evs ρ zc).toArray.size = size := by simp [hl]
  rw [h1, repl_ev]
  have := range_mod (AV.evs ρ zc) (by rw [hl]; exact h0) n
  rw [hl] at this
  rw [← this]
  apply Array.toList_inj.1
  simp [Array.toList_range]

/-- The zero values of 'make', of a slice's literal. -/
theorem zeros?_wq {α : Type} {E : Value → World → Prop} {elem : TypeId} {size n : Nat} {l : List AV} (hz : zeros? K.P elem size n = .ok l) {kk : Array Value → Sem α} {Q : α → World → Prop}
    (hq : ∀ zero : Array Value, (Array.range (n * size)).map (zero[· % zero.size]!) = (AV.evs ρ l).toArray → wq K.P K.Ev E (kk zero) Q w) :
    wq K.P K.Ev E (if n * size = 0 then (do
      let zero ← Pure.pure #[]
      kk zero) else (do
      let z ← zeroValue elem
      let zero ← Pure.pure z.cells
      kk zero)) Q w := by
  unfold zeros? at hz
  split at hz
  · rename_i h0
    cases hz
    rw [if_pos h0]
    exact hq _ (by rw [h0]; simp [AV.evs, Array.range])
  · rename_i h0
    simp only [bind_ok] at hz
    obtain ⟨z, hz, zc, hc, hz2⟩ := hz
    split at hz2
    · rename_i hs
      rw [pure_ok] at hz2; subst hz2
      rw [if_neg h0]
      simp only [wq_bind, wq_zeroValue (ρ := ρ) hz, wq_pure]
      exact hq _ (zeros_arr ρ hc hs (Nat.pos_of_ne_zero fun e => h0 (by rw [e]; simp)))
    · cases hz2
theorem zeros?_in {P : Program} {elem : TypeId} {size n : Nat} {l : List AV} (hz : zeros? P elem size n = .ok l) : AV.Ins U l := by
  unfold zeros? at hz
  split at hz
  · cases hz; trivial
  · simp only [bind_ok] at hz
    obtain ⟨z, hz, zc, hc, hz2⟩ := hz
    split at hz2
    · rw [pure_ok] at hz2; subst hz2
      exact repl_in (cells?_in hc (zero?_in hz)) _
    · cases hz2

theorem bytesOf?_ok {P : Program} {t : TypeId} {n : Nat} (h : bytesOf? P t = .ok n) : ∃ i, P.info? t = some i ∧ i.bytes = n := by
  unfold bytesOf? at h
  split at h
  · rename_i i hi; exact ⟨i, hi, by simpa using h⟩
  · cases h

theorem buildSlice_ok (R : Rel K ρ h w) (I : Ids K U h) {t : TypeId} {len : Nat} {parts : List (Nat × AV)} {v : AV} {h' : AH} (hp : ∀ p ∈ parts, p.2.In U) (he : buildSlice? K.P h t len parts = .ok (v, h')) :
    HOk K U ρ h w (Instr.buildSlice t len (parts.map fun p => (p.1, p.2.ev ρ)).toArray) v h' := by
  unfold buildSlice? at he
  simp only [bind_ok] at he
  obtain ⟨D, hD, he⟩ := he
  split at he
  · rename_i elem
    simp only [bind_ok] at he
    obtain ⟨size, hs, he⟩ := he
    split at he
    · cases he
    · rename_i hlen
      simp only [bind_ok] at he
      obtain ⟨z, hz, cells, hc, ha⟩ := he
      have hin : AV.Ins U cells := fill?_in hc (zeros?_in hz) hp
      obtain ⟨h1, h2, h3⟩ := allocSlice?_sound R I ha hin trivial trivial
      refine ⟨h1, h2, fun {E Q} hq => ?_⟩
      simp only [Instr.buildSlice, wq_bind, wq_underlying (under?_ok hD), wq_sizeOf hs]
      rw [if_neg (by simp only [gt_iff_lt, Nat.not_lt]; omega)]
      refine zeros?_wq (ρ := ρ) hz fun zero hzero => ?_
      rw [hzero, fill?_sound (ρ := ρ) hc]
      simp only [newRow, wq_bind, wq_newObj, wq_pure]
      obtain ⟨ρ', a1, a2, a3, a4⟩ := h3 (AV.evs ρ cells).toArray (by simp [ABlk.fits])
      exact hq _ _ ⟨ρ', a1, a2, a3, a4.symm⟩
  · cases he

theorem makeSlice_ok (G : K.Good) (R : Rel K ρ h w) (I : Ids K U h) {t : TypeId} {l c v : AV} {h' : AH} (he : makeSlice? K.P h t l c = .ok (v, h')) :
    HOk K U ρ h w (Instr.makeSlice t (l.ev ρ) (c.ev ρ)) v h' := by
  unfold makeSlice? at he
  simp only [bind_ok] at he
  obtain ⟨D, hD, he⟩ := he
  split at he
  · rename_i elem
    split at he
    · rename_i k1 l k2 c
      simp only [bind_ok] at he
      obtain ⟨l', hl, c', hc, size, hs, bytes, hb, he⟩ := he
      obtain rfl := litNat?_ok hl
      obtain rfl := litNat?_ok hc
      split at he
      · rename_i hle
        obtain ⟨hlc, hc2, hb2⟩ := hle
        simp only [bind_ok] at he
        obtain ⟨cells, hz, ha⟩ := he
        obtain ⟨i, hi, hib⟩ := bytesOf?_ok hb
        obtain ⟨h1, h2, h3⟩ := allocSlice?_sound R I ha (zeros?_in hz) trivial trivial
        refine ⟨h1, h2, fun {E Q} hq => ?_⟩
        have wl : IntKind.i64.wrap (Int.ofNat l') = l' := IntWalk.i64_in _ ⟨by have : (0 : Int) ≤ Int.ofNat l' := Int.natCast_nonneg _; omega, by have : Int.ofNat l' ≤ (1048576 : Nat) := Int.ofNat_le.2 (Nat.le_trans hlc hc2); omega⟩
        have wc : IntKind.i64.wrap (Int.ofNat c') = c' := IntWalk.i64_in _ ⟨by have : (0 : Int) ≤ Int.ofNat c' := Int.natCast_nonneg _; omega, by have : Int.ofNat c' ≤ (1048576 : Nat) := Int.ofNat_le.2 hc2; omega⟩
        have hmul : bytes * c' ≤ 68719476736 := Nat.mul_le_mul hb2 hc2
        have hmulI : ((i.bytes : Int) * (c' : Int)) ≤ 68719476736 := by rw [hib, ← Int.natCast_mul]; exact Int.ofNat_le.2 hmul
        simp only [Instr.makeSlice, AV.ev, IE.ev, asInt, asIntOf, wq_bind, wq_underlying (under?_ok hD), wq_pure, wq_typeInfo hi, wl, wc]
        have hcond : (((decide ((c' : Int) < 0) || decide ((i.bytes : Int) * (c' : Int) > 2 ^ 48)) || decide ((l' : Int) < 0)) || decide ((l' : Int) > (c' : Int))) = false := by
          have hp : (2 : Int) ^ 48 = 281474976710656 := by decide
          rw [hp]
          simp only [Bool.or_eq_false_iff, decide_eq_false_iff_not]
          refine ⟨⟨⟨by omega, by omega⟩, by omega⟩, by omega⟩
        rw [if_neg (by rw [hcond]; simp)]
        have ask : ∀ {Q' : Unit → World → Prop}, Q' () w → wq K.P K.Ev E (askRoom (((c' : Int)).toNat * i.bytes)) Q' w := by
          intro Q' hq'
          unfold askRoom
          simp only [wq_ite, wq_mark, wq_pure]
          split
          · exact ⟨G.noRoom, hq'⟩
          · exact hq'
        simp only [wq_bind, wq_pure]
        refine ask ?_
        simp only [wq_sizeOf hs, Int.toNat_natCast]
        refine zeros?_wq (ρ := ρ) hz fun zero hzero => ?_
        rw [hzero]
        simp only [newRow, wq_bind, wq_newObj, wq_pure]
        obtain ⟨ρ', a1, a2, a3, a4⟩ := h3 (AV.evs ρ cells).toArray (by simp [ABlk.fits])
        exact hq _ _ ⟨ρ', a1, a2, a3, a4.symm⟩
      · cases he
    · cases he
  · cases he

theorem makeRow_ok (G : K.Good) (R : Rel K ρ h w) (I : Ids K U h) {t : TypeId} {l c v : AV} {h' : AH} (hcU : c.In U) (he : makeRow? K.P K.O h t l c = .ok (v, h')) :
    HOk K U ρ h w (Instr.makeSlice t (l.ev ρ) (c.ev ρ)) v h' := by
  unfold makeRow? at he
  simp only [bind_ok] at he
  obtain ⟨D, hD, he⟩ := he
  split at he
  · rename_i elem
    split at he
    · rename_i k1 l k2 c
      simp only [bind_ok] at he
      obtain ⟨z, hz, size, hs, bytes, hb, neg, hneg, big, hbig, he⟩ := he
      split at he
      · rename_i hle
        obtain ⟨hlc, hn, hg, hb2⟩ := hle
        subst hn; subst hg
        obtain rfl := IE.eqb_eq hlc
        obtain ⟨i, hi, hib⟩ := bytesOf?_ok hb
        obtain ⟨h1, h2, h3⟩ := allocSlice?_sound R I he (b := .row [] elem l) ⟨trivial, hcU⟩ hcU hcU
        refine ⟨h1, h2, fun {E Q} hq => ?_⟩
        have c0 : ¬ l.ev ρ < 0 := dec_neg R hneg (by simp)
        have c1 : decide (l.ev ρ > 1048576) = false := dec_ev R hbig
        have c1' : ¬ l.ev ρ > 1048576 := of_decide_eq_false c1
        generalize hL : l.ev ρ = n at c0 c1'
        have wl : IntKind.i64.wrap n = n := IntWalk.i64_in _ ⟨by omega, by omega⟩
        have hmulI : ((i.bytes : Int) * n) ≤ 65536 * 1048576 := Int.mul_le_mul (by rw [hib]; exact Int.ofNat_le.2 hb2) (by omega) (by omega) (by decide)
        simp only [Instr.makeSlice, AV.ev, asInt, asIntOf, wq_bind, wq_underlying (under?_ok hD), wq_pure, wq_typeInfo hi, hL, wl]
        have hcond : (((decide (n < 0) || decide ((i.bytes : Int) * n > 2 ^ 48)) || decide (n < 0)) || decide (n > n)) = false := by
          have hp : (2 : Int) ^ 48 = 281474976710656 := by decide
          rw [hp]
          simp only [Bool.or_eq_false_iff, decide_eq_false_iff_not]
          refine ⟨⟨⟨c0, by omega⟩, c0⟩, by omega⟩
        rw [if_neg (by rw [hcond]; simp)]
        have ask : ∀ {Q' : Unit → World → Prop}, Q' () w → wq K.P K.Ev E (askRoom (n.toNat * i.bytes)) Q' w := by
          intro Q' hq'
          unfold askRoom
          simp only [wq_ite, wq_mark, wq_pure]
          split
          · exact ⟨G.noRoom, hq'⟩
          · exact hq'
        simp only [wq_bind, wq_pure]
        refine ask ?_
        simp only [wq_sizeOf hs]
        have fin : ∀ zero : Array Value, wq K.P K.Ev E (do
            let a ← newRow elem ((Array.range (n.toNat * size)).map (zero[· % zero.size]!))
            pure (.slice (some a) n.toNat n.toNat)) Q w := by
          intro zero
          simp only [newRow, wq_bind, wq_newObj, wq_pure]
          obtain ⟨ρ', a1, a2, a3, a4⟩ := h3 ((Array.range (n.toNat * size)).map (zero[· % zero.size]!)) (by
            obtain ⟨i', hi', hi2⟩ := sizeOf?_ok hs
            refine ⟨_, i', (List.nil_append _).symm, hi', ?_⟩
            rw [hL, hi2]; simp)
          rw [hL] at a4
          exact hq _ _ ⟨ρ', a1, a2, a3, a4.symm⟩
        by_cases h0 : n.toNat * size = 0
        · rw [if_pos h0]
          exact fin #[]
        · rw [if_neg h0]
          simp only [wq_bind, wq_zeroValue (ρ := ρ) hz, wq_pure]
          exact fin _
      · cases he
    · cases he
  · cases he

theorem makeSliceS_ok (G : K.Good) (R : Rel K ρ h w) (I : Ids K U h) {t : TypeId} {l c v : AV} {h' : AH} (hcU : c.In U) (he : makeSliceS? K.P K.O h t l c = .ok (v, h')) :
    HOk K U ρ h w (Instr.makeSlice t (l.ev ρ) (c.ev ρ)) v h' := by
  unfold makeSliceS? at he
  split at he
  · exact makeSlice_ok G R I he
  · exact makeRow_ok G R I hcU he

end
end Go.Proofs.Ytcpiafgkmakdiaa.SX
