/-
  The executor's heap against a world; numbers in use; loads, stores, new blocks.
-/
import Derived.Test.YtmnahfonnljobaaGreatDoorSxWq
set_option linter.unusedSectionVars false
namespace Go.Proofs.YtmnahfonnljobaaGreatDoor.SX

/-! ### Numbers in use -/
def IE.In (U : Nat → Prop) : IE → Prop
  | .lit _ => True
  | .var i => U i
  | .op _ _ a b => a.In U ∧ b.In U
  | .conv _ a => a.In U
  | .plus a b => a.In U ∧ b.In U
  | .times a b => a.In U ∧ b.In U
  | .tn a => a.In U
def BE.In (U : Nat → Prop) : BE → Prop
  | .lit _ => True
  | .var _ => True
  | .cmp _ a b => a.In U ∧ b.In U
def BR.In (U : Nat → Prop) : BR → Prop
  | .glob _ => True
  | .dyn i => U i
def AA.In (U : Nat → Prop) (a : AA) : Prop := a.blk.In U ∧ a.off.In U
def optIn {α : Type} (f : α → Prop) : Option α → Prop
  | none => True
  | some a => f a
mutual
def AV.In (U : Nat → Prop) : AV → Prop
  | .bool b => b.In U
  | .int _ e => e.In U
  | .ptr a => optIn (AA.In U) a
  | .slice a l c => optIn (AA.In U) a ∧ l.In U ∧ c.In U
  | .map r => optIn (BR.In U) r
  | .chan r => optIn (BR.In U) r
  | .func _ x y => AV.Ins U x ∧ AV.Ins U y
  | .iface _ v => v.In U
  | .agg x => AV.Ins U x
  | .tuple x => AV.Ins U x
  | .str _ => True
  | .nilFunc => True
  | .nilIface => True
  | .opq _ => True
  | .raw _ => True
def AV.Ins (U : Nat → Prop) : List AV → Prop
  | [] => True
  | a :: x => a.In U ∧ AV.Ins U x
end
def ABlk.In (U : Nat → Prop) : ABlk → Prop
  | .cells cs _ => AV.Ins U cs
  | .row cs _ c => AV.Ins U cs ∧ c.In U
def TT.In (U : Nat → Prop) (t : TT) : Prop := ∀ n, (t.get n).In U
structure Orc.In (U : Nat → Prop) (O : Orc) : Prop where
  bs : ∀ p ∈ O.bs, p.1.In U
  is : ∀ p ∈ O.is, p.1.In U ∧ p.2.In U
  mem : ∀ p ∈ O.mem, p.1.In U ∧ p.2.In U

theorem Ins_iff {U : Nat → Prop} : ∀ {l : List AV}, AV.Ins U l ↔ ∀ a ∈ l, a.In U
  | [] => by simp [AV.Ins]
  | a :: l => by simp [AV.Ins, Ins_iff (l := l)]

/-- Two assignments that are one on the numbers in use. -/
structure Agree (U : Nat → Prop) (ρ ρ' : Env) : Prop where
  p : ρ'.p = ρ.p
  v : ρ'.v = ρ.v
  i : ∀ n, U n → ρ'.i n = ρ.i n
  b : ∀ n, U n → ρ'.b n = ρ.b n

theorem Agree.refl (U : Nat → Prop) (ρ : Env) : Agree U ρ ρ := ⟨rfl, rfl, fun _ _ => rfl, fun _ _ => rfl⟩
theorem Agree.trans {U U' : Nat → Prop} {ρ ρ' ρ'' : Env} (h : Agree U ρ ρ') (h' : Agree U' ρ' ρ'') (hs : ∀ n, U n → U' n) : Agree U ρ ρ'' :=
  ⟨h'.p.trans h.p, h'.v.trans h.v, fun n hn => (h'.i n (hs n hn)).trans (h.i n hn), fun n hn => (h'.b n (hs n hn)).trans (h.b n hn)⟩
theorem Agree.mono {U U' : Nat → Prop} {ρ ρ' : Env} (h : Agree U' ρ ρ') (hs : ∀ n, U n → U' n) : Agree U ρ ρ' :=
  ⟨h.p, h.v, fun n hn => h.i n (hs n hn), fun n hn => h.b n (hs n hn)⟩

section
variable {U : Nat → Prop} {ρ ρ' : Env}
theorem IE.ev_agree (h : Agree U ρ ρ') : ∀ {e : IE}, e.In U → e.ev ρ' = e.ev ρ := by
  intro e
  induction e with
  | lit n => intro _; rfl
  | var i => intro hi; exact h.i i hi
  | op o k a b iha ihb => intro hi; simp only [IE.ev]; rw [iha hi.1, ihb hi.2]
  | conv k a ih => intro hi; simp only [IE.ev]; rw [ih hi]
  | plus a b iha ihb => intro hi; simp only [IE.ev]; rw [iha hi.1, ihb hi.2]
  | times a b iha ihb => intro hi; simp only [IE.ev]; rw [iha hi.1, ihb hi.2]
  | tn a ih => intro hi; simp only [IE.ev]; rw [ih hi]
theorem BE.ev_agree (h : Agree U ρ ρ') {e : BE} (hi : e.In U) : e.ev ρ' = e.ev ρ := by
  cases e with
  | lit b => rfl
  | var i => simp [BE.ev, h.p]
  | cmp o a b => simp only [BE.ev]; rw [IE.ev_agree h hi.1, IE.ev_agree h hi.2]
theorem BR.ev_agree (h : Agree U ρ ρ') {e : BR} (hi : e.In U) : e.ev ρ' = e.ev ρ := by
  cases e with
  | glob g => rfl
  | dyn i => exact h.b i hi
theorem AA.ev_agree (h : Agree U ρ ρ') {e : AA} (hi : e.In U) : e.ev ρ' = e.ev ρ := by
  simp only [AA.ev, BR.ev_agree h hi.1, IE.ev_agree h hi.2]
theorem opt_agree {α β : Type} {f g : α → β} {I : α → Prop} (hf : ∀ {a}, I a → f a = g a) : ∀ {o : Option α}, optIn I o → o.map f = o.map g
  | none, _ => rfl
  | some a, h => by simp [hf h]
mutual
theorem AV.ev_agree (h : Agree U ρ ρ') : ∀ (a : AV), a.In U → a.ev ρ' = a.ev ρ
  | .bool b, hi => by simp only [AV.ev, BE.ev_agree h hi]
  | .int k e, hi => by simp only [AV.ev, IE.ev_agree h hi]
  | .str s, _ => rfl
  | .ptr a, hi => by simp only [AV.ev]; rw [opt_agree (fun x => AA.ev_agree h x) hi]
  | .slice a l c, hi => by simp only [AV.ev]; rw [opt_agree (fun x => AA.ev_agree h x) hi.1, IE.ev_agree h hi.2.1, IE.ev_agree h hi.2.2]
  | .map r, hi => by simp only [AV.ev]; rw [opt_agree (fun x => BR.ev_agree h x) hi]
  | .chan r, hi => by simp only [AV.ev]; rw [opt_agree (fun x => BR.ev_agree h x) hi]
  | .func f x y, hi => by simp only [AV.ev]; rw [AV.evs_agree h x hi.1, AV.evs_agree h y hi.2]
  | .nilFunc, _ => rfl
  | .iface t v, hi => by simp only [AV.ev]; rw [AV.ev_agree h v hi]
  | .nilIface, _ => rfl
  | .agg x, hi => by simp only [AV.ev]; rw [AV.evs_agree h x hi]
  | .tuple x, hi => by simp only [AV.ev]; rw [AV.evs_agree h x hi]
  | .opq i, _ => by simp only [AV.ev, h.v]
  | .raw v, _ => rfl
theorem AV.evs_agree (h : Agree U ρ ρ') : ∀ (l : List AV), AV.Ins U l → AV.evs ρ' l = AV.evs ρ l
  | [], _ => rfl
  | a :: l, hi => by simp only [AV.evs]; rw [AV.ev_agree h a hi.1, AV.evs_agree h l hi.2]
end
end

/-! monotone -/
section
variable {U U' : Nat → Prop} (hs : ∀ n, U n → U' n)
 include hs
theorem IE.In.mono : ∀ {e : IE}, e.In U → e.In U' := by
  intro e
  induction e with
  | lit n => intro _; trivial
  | var i => exact hs i
  | op o k a b iha ihb => exact fun h => ⟨iha h.1, ihb h.2⟩
  | conv k a ih => exact ih
  | plus a b iha ihb => exact fun h => ⟨iha h.1, ihb h.2⟩
  | times a b iha ihb => exact fun h => ⟨iha h.1, ihb h.2⟩
  | tn a ih => exact ih
theorem BE.In.mono {e : BE} (h : e.In U) : e.In U' := by
  cases e with
  | cmp o a b => exact ⟨IE.In.mono hs h.1, IE.In.mono hs h.2⟩
  | _ => trivial
theorem BR.In.mono {e : BR} (h : e.In U) : e.In U' := by
  cases e with
  | glob g => trivial
  | dyn i => exact hs i h
theorem AA.In.mono {e : AA} (h : e.In U) : e.In U' := ⟨BR.In.mono hs h.1, IE.In.mono hs h.2⟩
theorem optIn.mono {α : Type} {f g : α → Prop} (hf : ∀ {a}, f a → g a) : ∀ {o : Option α}, optIn f o → optIn g o
  | none, _ => trivial
  | some _, h => hf h
mutual
theorem AV.In.mono : ∀ (a : AV), a.In U → a.In U'
  | .bool _, h => BE.In.mono hs h
  | .int _ _, h => IE.In.mono hs h
  | .str _, _ => trivial
  | .ptr _, h => optIn.mono hs (fun x => AA.In.mono hs x) h
  | .slice _ _ _, h => ⟨optIn.mono hs (fun x => AA.In.mono hs x) h.1, IE.In.mono hs h.2.1, IE.In.mono hs h.2.2⟩
  | .map _, h => optIn.mono hs (fun x => BR.In.mono hs x) h
  | .chan _, h => optIn.mono hs (fun x => BR.In.mono hs x) h
  | .func _ x y, h => ⟨AV.Ins.mono x h.1, AV.Ins.mono y h.2⟩
  | .nilFunc, _ => trivial
  | .iface _ v, h => AV.In.mono v h
  | .nilIface, _ => trivial
  | .agg x, h => AV.Ins.mono x h
  | .tuple x, h => AV.Ins.mono x h
  | .opq _, _ => trivial
  | .raw _, _ => trivial
theorem AV.Ins.mono : ∀ (l : List AV), AV.Ins U l → AV.Ins U' l
  | [], _ => trivial
  | a :: l, h => ⟨AV.In.mono a h.1, AV.Ins.mono l h.2⟩
end
theorem ABlk.In.mono {b : ABlk} (h : b.In U) : b.In U' := by
  cases b with
  | cells cs e => exact AV.Ins.mono hs _ h
  | row cs e c => exact ⟨AV.Ins.mono hs _ h.1, IE.In.mono hs h.2⟩
theorem TT.In.mono {t : TT} (h : t.In U) : t.In U' := fun n => AV.In.mono hs _ (h n)
theorem Orc.In.mono {O : Orc} (h : O.In U) : O.In U' :=
  ⟨fun p hp => BE.In.mono hs (h.bs p hp), fun p hp => ⟨IE.In.mono hs (h.is p hp).1, IE.In.mono hs (h.is p hp).2⟩, fun p hp => ⟨AA.In.mono hs (h.mem p hp).1, AV.In.mono hs _ (h.mem p hp).2⟩⟩
end

/-! ### The world -/
structure Ctx where
  P : Program
  O : Orc
  own : Nat → Prop
  Ev : Event → Prop
  lock : Prop

structure Ctx.Good (K : Ctx) : Prop where
  cell : ∀ a wr s, K.own a.block → K.Ev ⟨.cell a, wr, s⟩
  ext : ∀ m, K.Ev ⟨.mark m, false, true⟩
  noRoom : K.Ev ⟨.mark .noRoom, false, true⟩
  lock : K.lock → ∀ m, K.Ev ⟨.mark m, false, true⟩

def ABlk.elem : ABlk → TypeId
  | .cells _ e => e
  | .row _ e _ => e

def ABlk.fits (P : Program) (ρ : Env) : ABlk → Array Value → Prop
  | .cells cs _, arr => arr.toList = AV.evs ρ cs
  | .row cs e c, arr => ∃ rest i, arr.toList = AV.evs ρ cs ++ rest ∧ P.info? e = some i ∧ arr.size = (c.ev ρ).toNat * i.size

structure Rel (K : Ctx) (ρ : Env) (h : AH) (w : World) : Prop where
  blk : ∀ i b, findB i h.hp = some b → ∃ arr, w.heap[ρ.b i]? = some (.cells arr b.elem (0, 0)) ∧ b.fits K.P ρ arr
  own : ∀ i b, findB i h.hp = some b → K.own (ρ.b i)
  inj : ∀ i j b c, findB i h.hp = some b → findB j h.hp = some c → ρ.b i = ρ.b j → i = j
  bs : ∀ p ∈ K.O.bs, p.1.ev ρ = p.2
  is : ∀ p ∈ K.O.is, p.1.ev ρ = p.2.ev ρ
  mem : ∀ p ∈ K.O.mem, ¬ K.own (p.1.ev ρ).block ∧ w.cell? (p.1.ev ρ) = some (p.2.ev ρ) ∧ ∀ s, K.Ev ⟨.cell (p.1.ev ρ), false, s⟩
  room : ∀ n, w.heap.size ≤ n → K.own n

structure Ids (K : Ctx) (U : Nat → Prop) (h : AH) : Prop where
  hp : ∀ i b, findB i h.hp = some b → b.In U
  keys : ∀ i ∈ keys h.hp, U i
  nodup : (Go.Proofs.YtmnahfonnljobaaGreatDoor.SX.keys h.hp).Nodup
  fresh : ∀ n, h.nb ≤ n → n < h.lim → ¬ U n
  orc : K.O.In U

/-- What the goroutine does not own stays; nothing goes. -/
structure Keeps (own : Nat → Prop) (w w' : World) : Prop where
  heap : ∀ n, ¬ own n → w'.heap[n]? = w.heap[n]?
  size : w.heap.size ≤ w'.heap.size
  tape : w'.tape = w.tape
  os : w'.os = w.os
  output : w'.output = w.output

theorem Keeps.refl (own : Nat → Prop) (w : World) : Keeps own w w := ⟨fun _ _ => rfl, Nat.le_refl _, rfl, rfl, rfl⟩
theorem Keeps.trans {own : Nat → Prop} {w w' w'' : World} (h : Keeps own w w') (h' : Keeps own w' w'') : Keeps own w w'' :=
  ⟨fun n hn => (h'.heap n hn).trans (h.heap n hn), Nat.le_trans h.size h'.size, h'.tape.trans h.tape, h'.os.trans h.os, h'.output.trans h.output⟩

theorem heap_lt {w : World} {n : Nat} {o : Obj} (h : w.heap[n]? = some o) : n < w.heap.size := by
  rcases Nat.lt_or_ge n w.heap.size with h' | h'
  · exact h'
  · simp [Array.getElem?_eq_none h'] at h

theorem cell?_of {w : World} {b o : Nat} {arr : Array Value} {e : TypeId} {f : Nat × Nat} (h : w.heap[b]? = some (.cells arr e f)) : w.cell? ⟨b, o, none⟩ = arr[o]? := by
  simp [World.cell?, h]
theorem frozen?_of {w : World} {b o : Nat} {arr : Array Value} {e : TypeId} (h : w.heap[b]? = some (.cells arr e (0, 0))) : w.frozen? ⟨b, o, none⟩ = false := by
  simp [World.frozen?, h]

theorem evs_get (ρ : Env) (l : List AV) (n : Nat) : (AV.evs ρ l)[n]? = (l[n]?).map (AV.ev ρ) := by
  rw [evs_map]; simp
theorem evs_length (ρ : Env) (l : List AV) : (AV.evs ρ l).length = l.length := by rw [evs_map]; simp
theorem evs_append (ρ : Env) (l m : List AV) : AV.evs ρ (l ++ m) = AV.evs ρ l ++ AV.evs ρ m := by simp [evs_map]
theorem evs_set (ρ : Env) (l : List AV) (n : Nat) (v : AV) : AV.evs ρ (l.set n v) = (AV.evs ρ l).set n (v.ev ρ) := by simp [evs_map, List.map_set]

/-- A block's known cells, in whatever form. -/
theorem fits_get {P : Program} {ρ : Env} {b : ABlk} {arr : Array Value} (h : b.fits P ρ arr) {n : Nat} {v : AV} (hn : b.cs[n]? = some v) : arr[n]? = some (v.ev ρ) := by
  have hlt : n < b.cs.length := (List.getElem?_eq_some_iff.1 hn).1
  cases b with
  | cells cs e =>
    simp only [ABlk.fits] at h
    rw [← Array.getElem?_toList, h, evs_get]
    simp only [ABlk.cs] at hn
    rw [hn]; rfl
  | row cs e c =>
    obtain ⟨rest, i, h1, h2, h3⟩ := h
    simp only [ABlk.cs] at hn hlt
    rw [← Array.getElem?_toList, h1, List.getElem?_append_left (by rw [evs_length]; exact hlt), evs_get, hn]; rfl

theorem fits_set {P : Program} {ρ : Env} {b : ABlk} {arr : Array Value} (h : b.fits P ρ arr) {n : Nat} {v : AV} (hn : n < b.cs.length) : (b.put (b.cs.set n v)).fits P ρ (arr.setIfInBounds n (v.ev ρ)) := by
  cases b with
  | cells cs e =>
    simp only [ABlk.fits, ABlk.put, ABlk.cs] at h ⊢
    rw [Array.toList_setIfInBounds, h, evs_set]
  | row cs e c =>
    obtain ⟨rest, i, h1, h2, h3⟩ := h
    simp only [ABlk.cs] at hn
    refine ⟨rest, i, ?_, h2, by simpa using h3⟩
    simp only [ABlk.cs]
    rw [Array.toList_setIfInBounds, h1, evs_set, List.set_append_left _ _ (by rw [evs_length]; exact hn)]

theorem put_elem (b : ABlk) (cs : List AV) : (b.put cs).elem = b.elem := by cases b <;> rfl
theorem fits_agree {P : Program} {U : Nat → Prop} {ρ ρ' : Env} (ha : Agree U ρ ρ') {b : ABlk} (hb : b.In U) {arr : Array Value} (h : b.fits P ρ arr) : b.fits P ρ' arr := by
  cases b with
  | cells cs e => simp only [ABlk.fits] at h ⊢; rw [AV.evs_agree ha _ hb]; exact h
  | row cs e c =>
    obtain ⟨rest, i, h1, h2, h3⟩ := h
    exact ⟨rest, i, by rw [AV.evs_agree ha _ hb.1]; exact h1, h2, by rw [IE.ev_agree ha hb.2]; exact h3⟩

section
variable {K : Ctx} {ρ : Env} {h : AH} {w : World} {U : Nat → Prop}

/-- The world may be drawn from. -/
theorem Rel.at (R : Rel K ρ h w) {w' : World} (hh : w'.heap = w.heap) : Rel K ρ h w' :=
  ⟨fun i b hb => by rw [hh]; exact R.blk i b hb, R.own, R.inj, R.bs, R.is, fun p hp => by have := R.mem p hp; rw [show w'.cell? (p.1.ev ρ) = w.cell? (p.1.ev ρ) from by simp [World.cell?, hh]]; exact this, by rw [hh]; exact R.room⟩

/-! #### Loads -/
theorem load1_sound (R : Rel K ρ h w) (G : K.Good) {a : AA} {v : AV} (hl : load1 K.O h a = .ok v) : w.cell? (a.ev ρ) = some (v.ev ρ) ∧ ∀ s, K.Ev ⟨.cell (a.ev ρ), false, s⟩ := by
  have old : ∀ {v : AV}, (match look AA.eqb a K.O.mem with | some v => (Except.ok v : M AV) | none => .error "load an unknown cell") = .ok v → w.cell? (a.ev ρ) = some (v.ev ρ) ∧ ∀ s, K.Ev ⟨.cell (a.ev ρ), false, s⟩ := by
    intro v hv
    split at hv
    · rename_i u hu
      cases hv
      obtain ⟨x, hx, he⟩ := look_some hu
      obtain rfl := AA.eqb_eq he
      exact ⟨(R.mem _ hx).2.1, (R.mem _ hx).2.2⟩
    · cases hv
  obtain ⟨blk, off⟩ := a
  unfold load1 at hl
  dsimp only at hl
  split at hl
  · rename_i i n
    split at hl
    · rename_i b hb
      split at hl
      · rename_i u hu
        cases hl
        obtain ⟨arr, ha, hf⟩ := R.blk _ _ hb
        refine ⟨?_, fun s => G.cell _ _ _ (R.own _ _ hb)⟩
        rw [show AA.ev ρ ⟨.dyn i, .lit (.ofNat n)⟩ = ⟨ρ.b i, n, none⟩ from rfl, cell?_of ha]
        exact fits_get hf hu
      · cases hl
    · exact old hl
  · exact old hl

theorem load1_in (I : Ids K U h) {a : AA} {v : AV} (hl : load1 K.O h a = .ok v) : v.In U := by
  have old : ∀ {v : AV}, (match look AA.eqb a K.O.mem with | some v => (Except.ok v : M AV) | none => .error "load an unknown cell") = .ok v → v.In U := by
    intro v hv
    split at hv
    · rename_i u hu
      cases hv
      obtain ⟨x, hx, he⟩ := look_some hu
      exact (I.orc.mem _ hx).2
    · cases hv
  unfold load1 at hl
  dsimp only at hl
  split at hl
  · split at hl
    · rename_i b hb
      split at hl
      · rename_i u hu
        cases hl
        have := I.hp _ _ hb
        have hm := List.mem_of_getElem? hu
        cases b with
        | cells cs e => exact Ins_iff.1 this _ hm
        | row cs e c => exact Ins_iff.1 this.1 _ hm
      · cases hl
    · exact old hl
  · exact old hl

theorem addN_ev (ρ : Env) (a : IE) (n : Nat) : ((addN a n).ev ρ).toNat = (a.ev ρ).toNat + n := by
  unfold addN
  split
  · simp [IE.ev]; omega
  · split
    · rename_i h; subst h; simp
    · simp only [IE.ev]; simp; omega
theorem addN_in {a : IE} (n : Nat) (hi : a.In U) : (addN a n).In U := by
  unfold addN
  split
  · trivial
  · split
    · exact hi
    · exact ⟨hi, trivial⟩
theorem AA.add_ev (ρ : Env) (a : AA) (n : Nat) : (a.add n).ev ρ = (a.ev ρ).add n := by
  simp only [AA.ev, AA.add, Addr.add, addN_ev]
  split
  · rename_i h; subst h; simp
  · rfl
theorem AA.add_in {a : AA} (n : Nat) (hi : a.In U) : (a.add n).In U := ⟨hi.1, addN_in n hi.2⟩

theorem Addr.add_block (a : Addr) (n : Nat) : (a.add n).block = a.block := by unfold Addr.add; split <;> rfl

theorem loadN_sound (R : Rel K ρ h w) (G : K.Good) {E : Value → World → Prop} {a : AA} : ∀ {n j : Nat} {l : List AV} {acc : Array Value}, loadN K.O h a n j = .ok l →
    ∀ {Q : Array Value → World → Prop}, Q (acc ++ (AV.evs ρ l).toArray) w → wq K.P K.Ev E (loadCellsFrom (a.ev ρ) j n acc) Q w := by
  intro n
  induction n with
  | zero => intro j l acc hl Q hq; simp [loadN] at hl; subst hl; simpa [loadCellsFrom, AV.evs] using hq
  | succ n ih =>
    intro j l acc hl Q hq
    simp only [loadN] at hl
    split at hl
    · rename_i v hv
      split at hl
      · rename_i l' hl'
        cases hl
        obtain ⟨hc, he⟩ := load1_sound R G hv
        rw [AA.add_ev] at hc he
        simp only [loadCellsFrom, wq_bind]
        rw [wq_load]
        refine ⟨_, hc, he _, ih hl' ?_⟩
        simpa [AV.evs] using hq
      · cases hl
    · cases hl

theorem loadN_in (I : Ids K U h) {a : AA} : ∀ {n j : Nat} {l : List AV}, loadN K.O h a n j = .ok l → AV.Ins U l := by
  intro n
  induction n with
  | zero => intro j l hl; simp [loadN] at hl; subst hl; trivial
  | succ n ih =>
    intro j l hl
    simp only [loadN] at hl
    split at hl
    · rename_i v hv
      split at hl
      · rename_i l' hl'
        cases hl
        exact ⟨load1_in I hv, ih hl'⟩
      · cases hl
    · cases hl

theorem loadN_length {O : Orc} {a : AA} : ∀ {n j : Nat} {l : List AV}, loadN O h a n j = .ok l → l.length = n := by
  intro n
  induction n with
  | zero => intro j l hl; simp [loadN] at hl; subst hl; rfl
  | succ n ih =>
    intro j l hl
    simp only [loadN] at hl
    split at hl
    · split at hl
      · rename_i l' hl'
        cases hl
        simp [ih hl']
      · cases hl
    · cases hl

/-! #### Stores -/
theorem heap_setCell (w : World) (a : Addr) (v : Value) (n : Nat) : (w.setCell a v).heap[n]? = if n = a.block then (w.heap[n]?).map (fun
      | .cells c elem frozen => .cells (if a.spot.isSome then c else c.setIfInBounds a.off v) elem frozen
      | o => o) else w.heap[n]? := by
  simp only [World.setCell, Array.getElem?_modify]
  by_cases e : a.block = n
  · subst e; rw [if_pos rfl, if_pos rfl]; rfl
  · rw [if_neg e, if_neg (fun x => e x.symm)]
theorem size_setCell (w : World) (a : Addr) (v : Value) : (w.setCell a v).heap.size = w.heap.size := by simp [World.setCell]

theorem oneCell_ev {v : AV} (ho : v.oneCell? = true) (ρ : Env) : (v.ev ρ).oneCell' = true := by
  cases v <;> simp_all [AV.oneCell?, AV.ev, Value.oneCell']

theorem store1_sound (R : Rel K ρ h w) (G : K.Good) {a : AA} {v : AV} {h' : AH} (hs : store1 h a v = .ok h') :
    (v.ev ρ).oneCell' = true ∧ (∃ u, w.cell? (a.ev ρ) = some u) ∧ w.frozen? (a.ev ρ) = false ∧ (∀ s, K.Ev ⟨.cell (a.ev ρ), true, s⟩) ∧ Rel K ρ h' (w.setCell (a.ev ρ) (v.ev ρ)) ∧ Keeps K.own w (w.setCell (a.ev ρ) (v.ev ρ)) ∧ h'.nb = h.nb ∧ h'.lim = h.lim := by
  obtain ⟨blk, off⟩ := a
  unfold store1 at hs
  dsimp only at hs
  split at hs
  · rename_i i n
    split at hs
    · rename_i b hb
      split at hs
      · rename_i hc
        cases hs
        simp only [Bool.and_eq_true, decide_eq_true_eq] at hc
        obtain ⟨hlt, ho⟩ := hc
        obtain ⟨arr, ha, hf⟩ := R.blk _ _ hb
        have hown := R.own _ _ hb
        have hev : AA.ev ρ ⟨.dyn i, .lit (.ofNat n)⟩ = ⟨ρ.b i, n, none⟩ := rfl
        rw [hev]
        obtain ⟨u, hu⟩ : ∃ u, b.cs[n]? = some u := ⟨_, List.getElem?_eq_getElem hlt⟩
        refine ⟨oneCell_ev ho ρ, ⟨_, (cell?_of ha).trans (fits_get hf hu)⟩, frozen?_of ha, fun s => G.cell _ _ _ hown, ?_, ?_, rfl, rfl⟩
        · refine ⟨fun j c hj => ?_, fun j c hj => ?_, fun j k c d hj hk e => ?_, R.bs, R.is, fun p hp => ?_, fun m hm => R.room m (by rw [size_setCell] at hm; exact hm)⟩
          · rw [findB_setB] at hj
            split at hj
            · rename_i e; subst e
              rw [hb] at hj; cases hj
              refine ⟨arr.setIfInBounds n (v.ev ρ), ?_, fits_set hf hlt⟩
              rw [heap_setCell, if_pos rfl, ha, put_elem]; rfl
            · rename_i e
              obtain ⟨arr', ha', hf'⟩ := R.blk _ _ hj
              refine ⟨arr', ?_, hf'⟩
              rw [heap_setCell, if_neg (fun x => e (R.inj _ _ _ _ hj hb x)), ha']
          · rw [findB_setB] at hj
            split at hj
            · rename_i e; subst e; exact hown
            · exact R.own _ _ hj
          · rw [findB_setB] at hj hk
            split at hj <;> split at hk
            · rename_i e1 e2; exact e1.trans e2.symm
            · rename_i e1 e2; subst e1; exact R.inj _ _ _ _ hb hk e
            · rename_i e1 e2; subst e2; exact R.inj _ _ _ _ hj hb e
            · exact R.inj _ _ _ _ hj hk e
          · obtain ⟨m1, m2, m3⟩ := R.mem p hp
            refine ⟨m1, ?_, m3⟩
            have hne : (p.1.ev ρ).block ≠ ρ.b i := fun x => m1 (x ▸ hown)
            simp only [World.cell?] at m2 ⊢
            rw [heap_setCell, if_neg hne]; exact m2
        · refine ⟨fun m hm => ?_, by rw [size_setCell]; exact Nat.le_refl _, rfl, rfl, rfl⟩
          rw [heap_setCell, if_neg (fun x => hm (by rw [x]; exact hown))]
      · cases hs
    · cases hs
  · cases hs

theorem store1_ids (I : Ids K U h) {a : AA} {v : AV} {h' : AH} (hs : store1 h a v = .ok h') (hv : v.In U) : Ids K U h' := by
  obtain ⟨blk, off⟩ := a
  unfold store1 at hs
  dsimp only at hs
  split at hs
  · split at hs
    · rename_i b hb
      split at hs
      · cases hs
        refine ⟨fun j c hj => ?_, fun j hj => I.keys j (by rw [keys_setB] at hj; exact hj), by rw [keys_setB]; exact I.nodup, I.fresh, I.orc⟩
        rw [findB_setB] at hj
        split at hj
        · rw [hb] at hj; cases hj
          have hbi := I.hp _ _ hb
          have hset : ∀ (l : List AV) (n : Nat), AV.Ins U l → AV.Ins U (l.set n v) := fun l n hl => Ins_iff.2 fun a ha => by
            rcases List.mem_or_eq_of_mem_set ha with h' | rfl
            · exact Ins_iff.1 hl _ h'
            · exact hv
          cases b with
          | cells cs e => exact hset _ _ hbi
          | row cs e c => exact ⟨hset _ _ hbi.1, hbi.2⟩
        · exact I.hp _ _ hj
      · cases hs
    · cases hs
  · cases hs

theorem storeN_sound (G : K.Good) {E : Value → World → Prop} {a : AA} : ∀ {l : List AV} {j : Nat} {h h' : AH} {w : World}, Rel K ρ h w → storeN h a l j = .ok h' →
    ∀ {Q : Unit → World → Prop}, (∀ w', Rel K ρ h' w' → Keeps K.own w w' → h'.nb = h.nb → h'.lim = h.lim → Q () w') → wq K.P K.Ev E (storeCells (a.ev ρ) (AV.evs ρ l) j) Q w := by
  intro l
  induction l with
  | nil => intro j h h' w R hs Q hq; simp [storeN] at hs; subst hs; exact hq w R (Keeps.refl _ _) rfl rfl
  | cons v l ih =>
    intro j h h' w R hs Q hq
    simp only [storeN] at hs
    split at hs
    · rename_i h1 hh1
      obtain ⟨s1, s2, s3, s4, s5, s6, s7, s8⟩ := store1_sound R G hh1
      rw [AA.add_ev] at s2 s3 s4 s5 s6
      simp only [AV.evs, storeCells, wq_bind]
      rw [wq_store]
      exact ⟨s1, s2, s3, s4 _, ih s5 hs fun w' r1 r2 r3 r4 => hq w' r1 (s6.trans r2) (r3.trans s7) (r4.trans s8)⟩
    · cases hs

theorem storeN_ids {a : AA} : ∀ {l : List AV} {j : Nat} {h h' : AH}, Ids K U h → storeN h a l j = .ok h' → AV.Ins U l → Ids K U h' := by
  intro l
  induction l with
  | nil => intro j h h' I hs _; simp [storeN] at hs; subst hs; exact I
  | cons v l ih =>
    intro j h h' I hs hv
    simp only [storeN] at hs
    split at hs
    · rename_i h1 hh1
      exact ih (store1_ids I hh1 hv.1) hs hv.2
    · cases hs

end
end Go.Proofs.YtmnahfonnljobaaGreatDoor.SX
