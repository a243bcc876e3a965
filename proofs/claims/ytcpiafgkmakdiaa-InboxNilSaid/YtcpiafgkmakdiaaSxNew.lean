/-
  New blocks.
-/
import Derived.Test.YtcpiafgkmakdiaaSxRel
set_option linter.unusedSectionVars false
namespace Go.Proofs.Ytcpiafgkmakdiaa.SX

def Env.upd (ρ : Env) (n m : Nat) (c : Int) : Env := { ρ with b := fun x => if x = n then m else ρ.b x, i := fun x => if x = n then c else ρ.i x }

/-- The numbers in use, and those of a range. -/
def plus (U : Nat → Prop) (a b : Nat) : Nat → Prop := fun n => U n ∨ (a ≤ n ∧ n < b)

theorem plus_sub {U : Nat → Prop} {a b : Nat} : ∀ n, U n → plus U a b n := fun _ h => .inl h

theorem agree_upd {U : Nat → Prop} {ρ : Env} {n m : Nat} {c : Int} (h : ¬ U n) : Agree U ρ (ρ.upd n m c) :=
  ⟨rfl, rfl, fun x hx => by
    have : x ≠ n := fun e => h (e ▸ hx)
    simp [Env.upd, this], fun x hx => by
    have : x ≠ n := fun e => h (e ▸ hx)
    simp [Env.upd, this]⟩

section
variable {K : Ctx} {ρ : Env} {h : AH} {w : World} {U : Nat → Prop}

theorem Rel.agree (R : Rel K ρ h w) (I : Ids K U h) {ρ' : Env} (A : Agree U ρ ρ') : Rel K ρ' h w := by
  have hk : ∀ i b, findB i h.hp = some b → ρ'.b i = ρ.b i := fun i b hb => A.b i (I.keys i (findB_key hb))
  refine ⟨fun i b hb => ?_, fun i b hb => by rw [hk i b hb]; exact R.own' i b hb, fun i j b c hb hc e => R.inj i j b c hb hc (by rw [hk i b hb, hk j c hc] at e; exact e), fun p hp => ?_, fun p hp => ?_, fun p hp => ?_, R.room, fun i b hb n hs => R.lent i b hb n (by rw [hk i b hb] at hs; exact hs), R.low⟩
  · obtain ⟨arr, ha, hf⟩ := R.blk i b hb
    exact ⟨arr, by rw [hk i b hb]; exact ha, is_agree A (I.hp i b hb) hf⟩
  · rw [BE.ev_agree A (I.orc.bs p hp)]; exact R.bs p hp
  · rw [IE.ev_agree A (I.orc.is p hp).1, IE.ev_agree A (I.orc.is p hp).2]; exact R.is p hp
  · rw [AA.ev_agree A (I.orc.mem p hp).1, AV.ev_agree A _ (I.orc.mem p hp).2]; exact R.mem p hp

/-- A block more. -/
theorem Rel.insO (R : Rel K ρ h w) (I : Ids K U h) (hlt : h.nb < h.lim) {m : Nat} {c : Int} {b : ABlk} {o : Obj} (hm : w.heap[m]? = some o) (hown : K.own m)
    (hne : ∀ j x, findB j h.hp = some x → ρ.b j ≠ m) (hst : ∀ n, ¬ K.still m n) (hf : b.is K.P (ρ.upd h.nb m c) o) : Rel K (ρ.upd h.nb m c) ⟨insB h.nb b h.hp, h.nb + 1, h.lim⟩ w := by
  have hnu : ¬ U h.nb := I.fresh _ (Nat.le_refl _) hlt
  have hnk : h.nb ∉ Go.Proofs.Ytcpiafgkmakdiaa.SX.keys h.hp := fun hk => hnu (I.keys _ hk)
  have R' := R.agree I (agree_upd (m := m) (c := c) hnu)
  have hb0 : (ρ.upd h.nb m c).b h.nb = m := by simp [Env.upd]
  have hbj : ∀ j x, findB j h.hp = some x → (ρ.upd h.nb m c).b j = ρ.b j := fun j x hx => (agree_upd (m := m) (c := c) hnu).b j (I.keys j (findB_key hx))
  refine ⟨fun i x hx => ?_, fun i x hx => ?_, fun i j x y hx hy e => ?_, R'.bs, R'.is, R'.mem, R'.room, fun i x hx n hs => ?_, R'.low⟩
  · rw [findB_insB _ _ _ _ hnk] at hx
    split at hx
    · rename_i e; subst e; cases hx; rw [hb0]; exact ⟨o, hm, hf⟩
    · exact R'.blk i x hx
  · rw [findB_insB _ _ _ _ hnk] at hx
    split at hx
    · rename_i e; subst e; cases hx; rw [hb0]; exact .inl hown
    · exact R'.own' i x hx
  · rw [findB_insB _ _ _ _ hnk] at hx hy
    split at hx <;> split at hy
    · rename_i e1 e2; exact e1.trans e2.symm
    · rename_i e1 e2; subst e1; rw [hb0, hbj j y hy] at e; exact absurd e.symm (hne j y hy)
    · rename_i e1 e2; subst e2; rw [hb0, hbj i x hx] at e; exact absurd e (hne i x hx)
    · exact R'.inj i j x y hx hy e
  · rw [findB_insB _ _ _ _ hnk] at hx
    split at hx
    · rename_i e; subst e; rw [hb0] at hs; exact absurd hs (hst n)
    · exact R'.lent i x hx n hs

theorem Rel.ins (R : Rel K ρ h w) (I : Ids K U h) (hlt : h.nb < h.lim) {m : Nat} {c : Int} {b : ABlk} {arr : Array Value} (hm : w.heap[m]? = some (.cells arr b.elem (0, 0))) (hown : K.own m)
    (hne : ∀ j x, findB j h.hp = some x → ρ.b j ≠ m) (hst : ∀ n, ¬ K.still m n) (hf : b.fits K.P (ρ.upd h.nb m c) arr) : Rel K (ρ.upd h.nb m c) ⟨insB h.nb b h.hp, h.nb + 1, h.lim⟩ w :=
  R.insO I hlt hm hown hne hst (.inl ⟨arr, rfl, hf⟩)

theorem Ids.ins (I : Ids K U h) (hlt : h.nb < h.lim) {b : ABlk} (hb : b.In (plus U h.nb (h.nb + 1))) : Ids K (plus U h.nb (h.nb + 1)) ⟨insB h.nb b h.hp, h.nb + 1, h.lim⟩ := by
  have hnu : ¬ U h.nb := I.fresh _ (Nat.le_refl _) hlt
  have hnk : h.nb ∉ Go.Proofs.Ytcpiafgkmakdiaa.SX.keys h.hp := fun hk => hnu (I.keys _ hk)
  refine ⟨fun i x hx => ?_, fun i hi => ?_, ?_, fun n h1 h2 => ?_, I.orc.mono plus_sub⟩
  · rw [findB_insB _ _ _ _ hnk] at hx
    split at hx
    · cases hx; exact hb
    · exact ABlk.In.mono plus_sub (I.hp i x hx)
  · have := (keys_insB h.nb b h.hp).mem_iff.1 hi
    rcases List.mem_cons.1 this with rfl | hm
    · exact .inr ⟨Nat.le_refl _, Nat.lt_succ_self _⟩
    · exact .inl (I.keys i hm)
  · exact (keys_insB h.nb b h.hp).nodup_iff.2 (List.nodup_cons.2 ⟨hnk, I.nodup⟩)
  · rintro (hu | ⟨_, h3⟩)
    · exact I.fresh n (by simp only at h1; omega) h2 hu
    · simp only at h1; omega

/-- The new block in the world. -/
theorem Rel.push (R : Rel K ρ h w) (o : Obj) : Rel K ρ h { w with heap := w.heap.push o } ∧ Keeps K.own w { w with heap := w.heap.push o } := by
  have hget : ∀ n, n < w.heap.size → (w.heap.push o)[n]? = w.heap[n]? := fun n hn => by rw [Array.getElem?_push_lt hn, Array.getElem?_eq_getElem hn]
  have hsz : (w.heap.push o).size = w.heap.size + 1 := by simp
  refine ⟨⟨fun i b hb => ?_, R.own', R.inj, R.bs, R.is, fun p hp => ?_, fun n hn => R.room n (by simp only [hsz] at hn; omega), R.lent, fun b n hs => by have := R.low b n hs; simp only [hsz]; omega⟩, ⟨fun n hn => ?_, by simp only [hsz]; omega, rfl, rfl, rfl⟩⟩
  · obtain ⟨arr, ha, hf⟩ := R.blk i b hb
    exact ⟨arr, by show (w.heap.push o)[_]? = _; rw [hget _ (heap_lt ha)]; exact ha, hf⟩
  · obtain ⟨m1, m2, m3⟩ := R.mem p hp
    refine ⟨m1, ?_, m3⟩
    have hlt : (p.1.ev ρ).block < w.heap.size := by
      rcases Nat.lt_or_ge (p.1.ev ρ).block w.heap.size with h' | h'
      · exact h'
      · simp [World.cell?, Array.getElem?_eq_none h'] at m2
    simp only [World.cell?] at m2 ⊢
    rw [hget _ hlt]; exact m2
  · show (w.heap.push o)[n]? = _
    rcases Nat.lt_or_ge n w.heap.size with h' | h'
    · exact hget n h'
    · exact absurd (R.room n h') hn

/-- A new block, in the world and in the list. -/
theorem Rel.new (R : Rel K ρ h w) (I : Ids K U h) (hlt : h.nb < h.lim) {b : ABlk} {arr : Array Value} {c : Int} (hf : b.fits K.P (ρ.upd h.nb w.heap.size c) arr) :
    Rel K (ρ.upd h.nb w.heap.size c) ⟨insB h.nb b h.hp, h.nb + 1, h.lim⟩ { w with heap := w.heap.push (.cells arr b.elem (0, 0)) } := by
  obtain ⟨R', _⟩ := R.push (.cells arr b.elem (0, 0))
  refine R'.ins I hlt (by simp) (R.room _ (Nat.le_refl _)) (fun j x hx e => ?_) (fun n hs => by have := R.low _ n hs; omega) hf
  obtain ⟨arr', ha, _⟩ := R.blk j x hx
  have := heap_lt ha
  omega

theorem Rel.drop (R : Rel K ρ h w) (I : Ids K U h) (i : Nat) : Rel K ρ { h with hp := dropB i h.hp } w := by
  have hs : ∀ j b, findB j (dropB i h.hp) = some b → findB j h.hp = some b := fun j b hb => by
    rw [findB_dropB _ _ _ I.nodup] at hb
    split at hb
    · cases hb
    · exact hb
  exact ⟨fun j b hb => R.blk j b (hs j b hb), fun j b hb => R.own' j b (hs j b hb), fun j k b c hb hc e => R.inj j k b c (hs j b hb) (hs k c hc) e, R.bs, R.is, R.mem, R.room, fun j b hb => R.lent j b (hs j b hb), R.low⟩

theorem Ids.drop (I : Ids K U h) (i : Nat) : Ids K U { h with hp := dropB i h.hp } :=
  ⟨fun j b hb => I.hp j b (by
    rw [findB_dropB _ _ _ I.nodup] at hb
    split at hb
    · cases hb
    · exact hb), fun j hj => I.keys j ((keys_dropB_sub i h.hp).mem hj), (keys_dropB_sub i h.hp).nodup I.nodup, I.fresh, I.orc⟩

/-- What an operation leaves: a heap that has grown by numbers out of its range. -/
structure Grows (K : Ctx) (U : Nat → Prop) (h h' : AH) : Prop where
  nb : h.nb ≤ h'.nb
  lim : h'.lim = h.lim
  ids : Ids K (plus U h.nb h'.nb) h'

theorem plus_none {U : Nat → Prop} {a : Nat} : ∀ n, plus U a a n → U n := fun n h => h.elim id fun h => by omega

theorem Ids.congr {U U' : Nat → Prop} (I : Ids K U h) (h1 : ∀ n, U n ↔ U' n) : Ids K U' h :=
  ⟨fun i b hb => ABlk.In.mono (fun n => (h1 n).1) (I.hp i b hb), fun i hi => (h1 i).1 (I.keys i hi), I.nodup, fun n a b c => I.fresh n a b ((h1 n).2 c), I.orc.mono fun n => (h1 n).1⟩

theorem Grows.refl (I : Ids K U h) : Grows K U h h := ⟨Nat.le_refl _, rfl, I.congr fun n => ⟨.inl, plus_none n⟩⟩

theorem plus_plus {U : Nat → Prop} {a b c : Nat} (h1 : a ≤ b) (h2 : b ≤ c) (n : Nat) : plus (plus U a b) b c n ↔ plus U a c n := by
  unfold plus
  constructor
  · rintro ((h | h) | h)
    · exact .inl h
    · exact .inr ⟨h.1, by omega⟩
    · exact .inr ⟨by omega, h.2⟩
  · rintro (h | h)
    · exact .inl (.inl h)
    · by_cases e : n < b
      · exact .inl (.inr ⟨h.1, e⟩)
      · exact .inr ⟨by omega, h.2⟩

theorem Grows.trans {h' h'' : AH} (g : Grows K U h h') (g' : Grows K (plus U h.nb h'.nb) h' h'') : Grows K U h h'' :=
  ⟨Nat.le_trans g.nb g'.nb, g'.lim.trans g.lim, g'.ids.congr fun n => plus_plus g.nb g'.nb n⟩

/-- What is left of the world behind it: with some assignment of the new numbers. -/
def After (K : Ctx) (U : Nat → Prop) (ρ : Env) (w : World) (h' : AH) (Q : Env → Prop) (w' : World) : Prop :=
  ∃ ρ', Agree U ρ ρ' ∧ Rel K ρ' h' w' ∧ Keeps K.own w w' ∧ Q ρ'

theorem After.same (R : Rel K ρ h w) {Q : Env → Prop} (hq : Q ρ) : After K U ρ w h Q w := ⟨ρ, Agree.refl _ _, R, Keeps.refl _ _, hq⟩

theorem alloc?_sound (R : Rel K ρ h w) (I : Ids K U h) {b : ABlk} {v : AV} {h' : AH} (ha : alloc? h b = .ok (v, h')) (hb : b.In U) :
    (∃ a, v = .ptr (some a)) ∧ v.In (plus U h.nb h'.nb) ∧ Grows K U h h' ∧ ∀ arr, b.fits K.P ρ arr →
      After K U ρ w h' (fun ρ' => v.ev ρ' = .pointer (some ⟨w.heap.size, 0, none⟩)) { w with heap := w.heap.push (.cells arr b.elem (0, 0)) } := by
  obtain ⟨hp, nb, lim⟩ := h
  simp only [alloc?] at ha
  split at ha
  · rename_i hlt
    cases ha
    have hnu : ¬ U nb := I.fresh _ (Nat.le_refl _) hlt
    refine ⟨⟨_, rfl⟩, ⟨.inr ⟨Nat.le_refl _, Nat.lt_succ_self _⟩, trivial⟩, ⟨Nat.le_succ _, rfl, I.ins hlt (ABlk.In.mono plus_sub hb)⟩, fun arr hf => ?_⟩
    refine ⟨ρ.upd nb w.heap.size 0, agree_upd hnu, R.new I hlt (fits_agree (agree_upd hnu) hb hf), (R.push _).2, ?_⟩
    simp [AV.ev, AA.ev, BR.ev, IE.ev, Env.upd]
  · cases ha

theorem allocSlice?_sound (R : Rel K ρ h w) (I : Ids K U h) {b : ABlk} {l c : IE} {v : AV} {h' : AH} (ha : allocSlice? h b l c = .ok (v, h')) (hb : b.In U) (hl : l.In U) (hc : c.In U) :
    v.In (plus U h.nb h'.nb) ∧ Grows K U h h' ∧ ∀ arr, b.fits K.P ρ arr →
      After K U ρ w h' (fun ρ' => v.ev ρ' = .slice (some ⟨w.heap.size, 0, none⟩) (l.ev ρ).toNat (c.ev ρ).toNat) { w with heap := w.heap.push (.cells arr b.elem (0, 0)) } := by
  obtain ⟨hp, nb, lim⟩ := h
  simp only [allocSlice?] at ha
  split at ha
  · rename_i hlt
    cases ha
    have hnu : ¬ U nb := I.fresh _ (Nat.le_refl _) hlt
    refine ⟨⟨⟨.inr ⟨Nat.le_refl _, Nat.lt_succ_self _⟩, trivial⟩, IE.In.mono plus_sub hl, IE.In.mono plus_sub hc⟩, ⟨Nat.le_succ _, rfl, I.ins hlt (ABlk.In.mono plus_sub hb)⟩, fun arr hf => ?_⟩
    refine ⟨ρ.upd nb w.heap.size 0, agree_upd hnu, R.new I hlt (fits_agree (agree_upd hnu) hb hf), (R.push _).2, ?_⟩
    simp only [AV.ev, IE.ev_agree (agree_upd hnu) hl, IE.ev_agree (agree_upd hnu) hc]
    simp [AA.ev, BR.ev, IE.ev, Env.upd]
  · cases ha

end
end Go.Proofs.Ytcpiafgkmakdiaa.SX
