/-
  Pieces of runs over a part of memory: what is left out stays; assignments by hand; frames told anew. Conditions: none.
-/
import Derived.Test.YtmnahfonnljobaaGreatDoorSxRensB
import Derived.Test.YtmnahfonnljobaaGreatDoorSxMarks
import Derived.Test.YtmnahfonnljobaaGreatDoorSxRF
set_option linter.unusedSectionVars false
set_option linter.unusedVariables false
set_option linter.unusedSimpArgs false
namespace Go.Proofs.YtmnahfonnljobaaGreatDoor.SX
open Go.Conc

/-! ### Assignments by hand -/
noncomputable def lookN {α : Type} (d : α) (n : Nat) (l : List (Nat × α)) : α := (look (fun a b => Nat.beq a b) n l).getD d
noncomputable def mkE (is : List (Nat × Int)) (bs : List (Nat × Nat)) (vs : List (Nat × Value)) : Env := { i := fun n => lookN 0 n is, p := fun _ => false, v := fun n => lookN undef n vs, b := fun n => lookN 0 n bs, bt := (none, []) }

/-! ### Frames told anew -/
/-- Temporaries: some told, the others whatever they are. -/
noncomputable def tmpsOf (nt : Nat) (st : Nat → Value) (live : List (Nat × AV)) : TT := TT.fill ((List.range nt).map fun n => (look (fun a b => Nat.beq a b) n live).getD (.raw (st n))) 0 .leaf

theorem tmpsOf_get {nt : Nat} (hn : nt ≤ 60000) (st : Nat → Value) (live : List (Nat × AV)) (n : Nat) : (tmpsOf nt st live).get n = if n < nt then (look (fun a b => Nat.beq a b) n live).getD (.raw (st n)) else undefA := by
  unfold tmpsOf
  rw [TT.get_fill _ 0 .leaf n (by simpa using hn)]
  simp only [List.length_map, List.length_range, Nat.zero_add, Nat.sub_zero, Nat.zero_le, true_and]
  by_cases h : n < nt
  · rw [if_pos h, if_pos h]
    simp [List.getD_eq_getElem?_getD, List.getElem?_map, List.getElem?_range h]
  · rw [if_neg h, if_neg h]; rfl

section
variable {P : Program} {ρ ρ' : Env}

/-- The same frame, in other words. -/
theorem FrRel.move {fr fr' : AFrame} {g : Frame} (h : FrRel P ρ fr g) (e1 : fr'.fn = fr.fn) (e2 : fr'.nt = fr.nt) (e3 : fr'.todo = fr.todo) (e4 : fr.mode = .run) (e5 : fr'.mode = .run) (e6 : fr'.kind = fr.kind) (e7 : plainK fr.kind) (e8 : fr'.defers.map (AD.ev ρ') = fr.defers.map (AD.ev ρ))
    (ht : ∀ n, n < fr.nt → (fr'.tmps.get n).ev ρ' = (fr.tmps.get n).ev ρ) (ho : ∀ n, fr.nt ≤ n → fr'.tmps.get n = undefA) : FrRel P ρ' fr' g := by
  obtain ⟨fn, nt, t, todo, defers, mode, kind⟩ := fr
  obtain ⟨fn', nt', t', todo', defers', mode', kind'⟩ := fr'
  dsimp only at *
  subst e1; subst e2; subst e3; subst e4; subst e5; subst e6
  obtain ⟨tm, td, i, rfl⟩ := h
  refine ⟨tm, td, ⟨⟨i.tmps.size, i.tmps.le, fun n hn => by rw [ht n hn]; exact i.tmps.get n hn, fun n hn => ho n hn⟩, i.kind, fun _ => i.todo rfl, i.fn⟩, ?_⟩
  unfold frameOf
  dsimp only
  have e9 : aB ρ' kind' tm defers' = aB ρ kind' tm defers := by rw [plain_aB e7, plain_aB e7, e8]
  rw [e9, plain_bB e7, plain_bB e7]
  rfl

/-- Some temporaries are told, the others veiled. -/
theorem FrRel.tell {fr : AFrame} {g : Frame} (h : FrRel P ρ fr g) (e4 : fr.mode = .run) (e7 : plainK fr.kind) (e8 : fr.defers = []) {live : List (Nat × AV)} (hl : ∀ n a, look (fun a b => Nat.beq a b) n live = some a → a.ev ρ' = (fr.tmps.get n).ev ρ) :
    FrRel P ρ' ⟨fr.fn, fr.nt, tmpsOf fr.nt (fun n => (fr.tmps.get n).ev ρ) live, fr.todo, [], .run, fr.kind⟩ g := by
  have hle : fr.nt ≤ 60000 := by obtain ⟨tm, td, i, _⟩ := h; exact i.tmps.le
  refine h.move rfl rfl rfl e4 rfl rfl e7 (by rw [e8]; rfl) (fun n hn => ?_) (fun n hn => ?_)
  · dsimp only
    rw [tmpsOf_get hle, if_pos hn]
    cases e : look (fun a b => Nat.beq a b) n live with
    | none => simp [AV.ev]
    | some a => exact hl n a e
  · dsimp only
    rw [tmpsOf_get hle, if_neg (by omega)]

/-! ### What is seen of a piece's end -/
structure Seen where
  fn : FuncId
  nt : Nat
  todo : List Item
  defers : List AD
  mode : AMode
  kind : CallKind
  callers : List AFrame
  hp : List (Nat × ABlk)
  vals : List AV
noncomputable def seenOf (c : ACfg) (live : List Nat) : Seen := ⟨c.cur.fn, c.cur.nt, c.cur.todo, c.cur.defers, c.cur.mode, c.cur.kind, c.callers, c.h.hp, live.map fun n => c.cur.tmps.get n⟩
noncomputable def see (r : M ACfg) (live : List Nat) : Option Seen :=
  match r with
  | .ok c => some (seenOf c live)
  | .error _ => none
theorem see_ok {r : M ACfg} {live : List Nat} {s : Seen} (h : see r live = some s) : ∃ c, r = .ok c ∧ seenOf c live = s := by
  cases r with
  | ok c => exact ⟨c, rfl, Option.some.inj h⟩
  | error e => cases h
end

/-! ### A part of memory -/
/-- Still places are not written. -/
def EvS (still : Nat → Nat → Prop) (e : Event) : Prop := ∀ b n s, e = ⟨.cell ⟨b, n, none⟩, true, s⟩ → ¬ still b n
def Ctx.sub (K : Ctx) (O : Orc) (own : Nat → Prop) (still : Nat → Nat → Prop) : Ctx := ⟨K.P, O, own, fun e => K.Ev e ∧ EvS still e, K.lock, fun b n => K.still b n ∨ still b n⟩

section
variable {K : Ctx} {O : Orc} {own : Nat → Prop} {still : Nat → Nat → Prop}
theorem sub_good (Gd : K.Good) (h : ∀ n, own n → K.own n) : (K.sub O own still).Good := by
  refine ⟨fun a s ho => ⟨Gd.rd a s (h _ ho), fun b n s' e => by cases e⟩, fun a s ho hn => ⟨Gd.wr a s (h _ ho) fun x => hn (.inl x), fun b n s' e => ?_⟩, fun b n s hs he => ?_, fun m hm => ⟨Gd.ext m hm, fun b n s e => by cases e⟩, ⟨Gd.noRoom, fun b n s e => by cases e⟩, fun L m => ⟨Gd.lock L m, fun b n s e => by cases e⟩, fun r wr s ho => ⟨Gd.obj r wr s (h _ ho), fun b n s' e => by cases e⟩⟩
  · cases e
    exact fun x => hn (.inr x)
  · rcases hs with hs | hs
    · exact Gd.noWr b n s hs he.1
    · exact he.2 b n s rfl hs
theorem sub_dk (h : ∀ n, own n → K.own n) (w w' : World) (es : Array Event) (d : DK (K.sub O own still) w w' es) : DK K w w' es :=
  ⟨d.1.mono h, fun e he => (d.2.1 e he).1, fun b n v hs hc => d.2.2 b n v (.inl hs) hc⟩
end

/-! ### What holds of each step holds of the way -/
theorem Walk.along {P : Program} {main : Bool} {D : World → World → Array Event → Prop} {S : Goroutine → World → Prop} {R : World → World → Prop} (r0 : ∀ w, R w w) (rd : ∀ w d w', R (drawnAt w d) w' → R w w') (rd' : ∀ w d, R w (drawnAt w d)) (rt : ∀ w w' w'', R w w' → R w' w'' → R w w'') (rD : ∀ w w' es, D w w' es → R w w') {n : Nat} {g : Goroutine} {w : World} (h : Walk P main D S n g w) :
    Walk P main D (fun g' w' => S g' w' ∧ R w w') n g w := by
  have key : ∀ {k : Nat} {g : Goroutine} {w : World}, WalkI P main D S k g w → ∀ w0, R w0 w → WalkI P main D (fun g' w' => S g' w' ∧ R w0 w') k g w := by
    intro k g w h
    induction h with
    | stop g w hs => exact fun w0 hr => WalkI.stop g w ⟨hs, hr⟩
    | step n g w g' w' es hr hs hdd _ ih => exact fun w0 h0 => WalkI.step n g w g' w' es hr hs hdd fun d => ih d w0 (rt _ _ _ h0 (rd _ d _ (rD _ _ _ (hdd d))))
    | off n g w g' hr hs _ ih => exact fun w0 h0 => WalkI.off n g w g' hr hs fun d => ih d w0 (rt _ _ _ h0 (rd' _ d))
    | on n g w g' hr hs _ ih => exact fun w0 h0 => WalkI.on n g w g' hr hs fun d => ih d w0 (rt _ _ _ h0 (rd' _ d))
  exact key h w (r0 w)

theorem Stays.refl (S : Nat → Nat → Prop) (w : World) : Stays S w w := fun _ _ _ _ h => h
theorem Stays.trans {S : Nat → Nat → Prop} {w w' w'' : World} (h : Stays S w w') (h' : Stays S w' w'') : Stays S w w'' := fun b n v hs hc => h' b n v hs (h b n v hs hc)

/-- What a piece comes to. -/
structure Came1 (K : Ctx) (U : Nat → Prop) (ρ : Env) (own : Nat → Prop) (still : Nat → Nat → Prop) (O : Orc) (cs : List Frame) (live : List Nat) (V : Seen) (w : World) (g' : Goroutine) (w' : World) (ρ' : Env) (c' : ACfg) (fr' : Frame) (frs' : List Frame) : Prop where
  agree : Agree U ρ ρ'
  keeps : Keeps own w w'
  stays : Stays still w w'
  seen : seenOf c' live = V
  fr : FrRel K.P ρ' c'.cur fr'
  frs : FrRels K.P ρ' c'.callers frs'
  rel : Rel (K.sub O own still) ρ' c'.h w'
  gor : g' = G fr' (frs' ++ cs)

/-- A piece of a run, over a part of memory. -/
theorem piece {K : Ctx} {main : Bool} (Gd : K.Good) {own : Nat → Prop} {still : Nat → Nat → Prop} (hown : ∀ n, own n → K.own n) {O : Orc} {ext : Ext} {sum : Sums} (F : (K.sub O own still).Facts) (X : ExtOk (K.sub O own still) ext) (Z : SumOk (K.sub O own still) main sum) {f n : Nat} {ks : List Nat} {c : ACfg} {live : List Nat} {V : Seen}
    (hv : see (chunkTo? K.P O ext sum f n ks c) live = some V) {nb : Nat} (hl : cfgLow nb c = true) (hnb : c.h.nb = nb) (hO : O.low nb = true) {ρ : Env} {fr : Frame} {frs cs : List Frame} {w : World} (hf : FrRel K.P ρ c.cur fr) (hfs : FrRels K.P ρ c.callers frs) (R : Rel (K.sub O own still) ρ c.h w) :
    Walk K.P main (DK K) (fun g' w' => ∃ ρ' c' fr' frs', Came1 K (Below nb) ρ own still O cs live V w g' w' ρ' c' fr' frs') 0 (G fr (frs ++ cs)) w := by
  obtain ⟨c', hc, hs⟩ := see_ok hv
  obtain ⟨_, N, L⟩ := chunkTo_ok (K := K.sub O own still) (main := main) (sub_good Gd hown) F X Z hc
  have W := L (Below nb) ρ cs (G fr (frs ++ cs)) w (cfgLow_in (K := K.sub O own still) hl hnb hO) ⟨R, fr, frs, hf, hfs, rfl⟩
  have W2 := Walk.along (R := fun w w' => Stays still w w') (fun w => Stays.refl _ w) (fun w d w' h => h) (fun w d => fun _ _ _ _ h => h) (fun _ _ _ h h' => h.trans h') (fun w w' es h => fun b n v hs hc => h.2.2 b n v (.inr hs) hc) W
  refine (Walk.weaken (fun g' w' hd => ?_) (W2.lax (sub_dk hown))).any
  obtain ⟨⟨ρ', A, kp, gr, hin, R', fr', frs', h1, h2, h3⟩, hst⟩ := hd
  exact ⟨ρ', c', fr', frs', A, kp, hst, hs, h1, h2, R', h3⟩

theorem look_map {P : Nat → AV → Prop} : ∀ {lv : List (Nat × AV)}, (∀ p ∈ lv, P p.1 p.2) → ∀ n a, look (fun a b => Nat.beq a b) n lv = some a → P n a
  | lv, h, n, a, hk => by
    obtain ⟨x, hx, he⟩ := look_some hk
    obtain rfl := Nat.eq_of_beq_eq_true he
    exact h _ hx
theorem told_pairs {ρ ρ2 : Env} {t : TT} : ∀ {lv : List (Nat × AV)}, AV.evs ρ2 (lv.map (·.2)) = AV.evs ρ (lv.map fun p => t.get p.1) → ∀ p ∈ lv, p.2.ev ρ2 = (t.get p.1).ev ρ
  | [], _, p, hp => by cases hp
  | q :: lv, h, p, hp => by
    simp only [List.map_cons, AV.evs, List.cons.injEq] at h
    rcases List.mem_cons.1 hp with rfl | hp
    · exact h.1
    · exact told_pairs h.2 p hp

section
variable {K : Ctx} {U : Nat → Prop} {ρ ρ' : Env} {own : Nat → Prop} {still : Nat → Nat → Prop} {O : Orc} {cs : List Frame} {w : World} {g' : Goroutine} {w' : World} {c' : ACfg} {fr' : Frame} {frs' : List Frame}

/-- The frame at a piece's end, told anew. -/
theorem Came1.told {lv : List (Nat × AV)} {fn : FuncId} {nt : Nat} {todo : List Item} {kind : CallKind} {callers : List AFrame} {hp : List (Nat × ABlk)} {vals : List AV} (C : Came1 K U ρ own still O cs (lv.map (·.1)) ⟨fn, nt, todo, [], .run, kind, callers, hp, vals⟩ w g' w' ρ' c' fr' frs') (hk : plainK kind) :
    ∃ st, ∀ ρ2 : Env, AV.evs ρ2 (lv.map (·.2)) = AV.evs ρ' vals → FrRel K.P ρ2 ⟨fn, nt, tmpsOf nt st lv, todo, [], .run, kind⟩ fr' := by
  obtain ⟨⟨fn', nt', t, todo', ds, mode, kind'⟩, callers', hp', nb, lim⟩ := c'
  have s := C.seen
  simp only [seenOf, Seen.mk.injEq] at s
  obtain ⟨rfl, rfl, rfl, rfl, rfl, rfl, rfl, rfl, s4⟩ := s
  refine ⟨_, fun ρ2 hv => C.fr.tell (ρ' := ρ2) rfl hk rfl (live := lv) ?_⟩
  refine look_map (P := fun n a => a.ev ρ2 = (t.get n).ev ρ') (told_pairs ?_)
  rw [hv, ← s4, List.map_map]
  rfl
theorem Came1.alone {live : List Nat} {fn : FuncId} {nt : Nat} {todo : List Item} {ds : List AD} {mode : AMode} {kind : CallKind} {hp : List (Nat × ABlk)} {vals : List AV} (C : Came1 K U ρ own still O cs live ⟨fn, nt, todo, ds, mode, kind, [], hp, vals⟩ w g' w' ρ' c' fr' frs') : g' = G fr' cs ∧ c'.h.hp = hp := by
  have s := C.seen
  simp only [seenOf, Seen.mk.injEq] at s
  obtain ⟨_, _, _, _, _, _, hc, hh, _⟩ := s
  have hfs := C.frs
  rw [hc] at hfs
  cases frs' with
  | cons a b => exact absurd hfs (by simp [FrRels])
  | nil => exact ⟨C.gor, hh⟩
end

/-- Other words for the same temporaries. -/
theorem look_pairs {ρ ρ' : Env} (n : Nat) : ∀ {l l' : List (Nat × AV)}, l.map (·.1) = l'.map (·.1) → AV.evs ρ' (l'.map (·.2)) = AV.evs ρ (l.map (·.2)) →
    (look (fun a b => Nat.beq a b) n l = none ∧ look (fun a b => Nat.beq a b) n l' = none) ∨ ∃ a a', look (fun a b => Nat.beq a b) n l = some a ∧ look (fun a b => Nat.beq a b) n l' = some a' ∧ a'.ev ρ' = a.ev ρ
  | [], [], _, _ => .inl ⟨rfl, rfl⟩
  | [], _ :: _, h, _ => by cases h
  | _ :: _, [], h, _ => by cases h
  | p :: l, p' :: l', h, he => by
    simp only [List.map_cons, List.cons.injEq] at h
    simp only [List.map_cons, AV.evs, List.cons.injEq] at he
    have ih := look_pairs n h.2 he.2
    have e1 : look (fun a b => Nat.beq a b) n (p :: l) = Bool.rec (look (fun a b => Nat.beq a b) n l) (some p.2) (Nat.beq n p.1) := rfl
    have e2 : look (fun a b => Nat.beq a b) n (p' :: l') = Bool.rec (look (fun a b => Nat.beq a b) n l') (some p'.2) (Nat.beq n p'.1) := rfl
    rw [e1, e2, ← h.1]
    cases Nat.beq n p.1 with
    | true => exact .inr ⟨p.2, p'.2, rfl, rfl, he.1⟩
    | false => exact ih
theorem FrRel.retell {P : Program} {ρ ρ' : Env} {fn : FuncId} {nt : Nat} {st : Nat → Value} {l l' : List (Nat × AV)} {todo : List Item} {fr : Frame} (h : FrRel P ρ ⟨fn, nt, tmpsOf nt st l, todo, [], .run, .normal⟩ fr) (hk : l.map (·.1) = l'.map (·.1)) (he : AV.evs ρ' (l'.map (·.2)) = AV.evs ρ (l.map (·.2))) :
    FrRel P ρ' ⟨fn, nt, tmpsOf nt st l', todo, [], .run, .normal⟩ fr := by
  have hle : nt ≤ 60000 := by obtain ⟨tm, td, i, _⟩ := h; exact i.tmps.le
  refine h.move rfl rfl rfl rfl rfl rfl (.inl rfl) rfl (fun n hn => ?_) fun n hn => ?_
  · dsimp only at hn ⊢
    rw [tmpsOf_get hle, tmpsOf_get hle, if_pos hn, if_pos hn]
    rcases look_pairs (ρ := ρ) (ρ' := ρ') n hk he with ⟨a, b⟩ | ⟨a, a', h1, h2, h3⟩
    · rw [a, b]; simp [AV.ev]
    · rw [h1, h2]; exact h3
  · dsimp only at hn ⊢
    rw [tmpsOf_get hle, if_neg (by omega)]

/-! ### Rel: from facts, and back -/
section
variable {K : Ctx} {ρ ρ' : Env} {w w' : World}

/-- No memory of one's own but what comes. -/
theorem rel_new {O : Orc} {own : Nat → Prop} {still : Nat → Nat → Prop} {nb lim : Nat} (F : FactsAt (K.sub O own still) O ρ w) (hnew : ∀ n, w.heap.size ≤ n → own n) (hlow : ∀ b n, K.still b n ∨ still b n → b < w.heap.size) : Rel (K.sub O own still) ρ ⟨[], nb, lim⟩ w :=
  ⟨(fun i b hb => by cases hb), (fun i b hb => by cases hb), (fun i j b c hb => by cases hb), F.bs, F.is, F.mem, hnew, (fun i b hb => by cases hb), hlow⟩

/-- What is not owned within stays as it was. -/
theorem Rel.kept {h : AH} (R : Rel K ρ h w) {own : Nat → Prop} (kp : Keeps own w w') (hb : ∀ i b, findB i h.hp = some b → ¬ own (ρ.b i)) (hm : ∀ p ∈ K.O.mem, ¬ own (p.1.ev ρ).block) : Rel K ρ h w' := by
  refine ⟨fun i b hb' => ?_, R.own', R.inj, R.bs, R.is, fun p hp => ?_, fun n hn => R.room n (Nat.le_trans kp.size hn), R.lent, fun b n hs => Nat.lt_of_lt_of_le (R.low b n hs) kp.size⟩
  · obtain ⟨o, h1, h2⟩ := R.blk i b hb'
    exact ⟨o, by rw [kp.heap _ (hb i b hb')]; exact h1, h2⟩
  · obtain ⟨m1, m2, m3⟩ := R.mem p hp
    refine ⟨m1, ?_, m3⟩
    simp only [World.cell?] at m2 ⊢
    rw [kp.heap _ (hm p hp)]; exact m2
theorem cellLt {a : Addr} {v : Value} (hc : w.cell? a = some v) : a.block < w.heap.size := by
  rcases Nat.lt_or_ge a.block w.heap.size with h' | h'
  · exact h'
  · simp [World.cell?, Array.getElem?_eq_none h'] at hc
/-- Where only what is new was owned. -/
theorem Rel.kept_new {h : AH} (R : Rel K ρ h w) (kp : Keeps (fun n => w.heap.size ≤ n) w w') : Rel K ρ h w' :=
  R.kept kp (fun i b hb => by
    obtain ⟨o, h1, _⟩ := R.blk i b hb
    exact Nat.not_le.2 (heap_lt h1)) fun p hp => Nat.not_le.2 (cellLt (R.mem p hp).2.1)
/-- Another assignment that is one on what is told. -/
theorem Rel.env {h : AH} {U : Nat → Prop} (R : Rel K ρ h w) (I : Ids K U h) (A : Agree U ρ ρ') : Rel K ρ' h w := R.agree I A
end

/-- A piece of a run that owns what is new alone. -/
theorem piece_new {K : Ctx} {main : Bool} (Gd : K.Good) (hrd : ∀ a s, K.Ev ⟨.cell a, false, s⟩) {w : World} (hnew : ∀ n, w.heap.size ≤ n → K.own n) (hlow : ∀ b n, K.still b n → b < w.heap.size) {O : Orc} {ext : Ext} {sum : Sums} (F : (K.sub O (fun n => w.heap.size ≤ n) (fun _ _ => False)).Facts) (X : (K.sub O (fun n => w.heap.size ≤ n) (fun _ _ => False)).Good → ExtOk (K.sub O (fun n => w.heap.size ≤ n) (fun _ _ => False)) ext)
    (Z : (K.sub O (fun n => w.heap.size ≤ n) (fun _ _ => False)).Good → SumOk (K.sub O (fun n => w.heap.size ≤ n) (fun _ _ => False)) main sum) {f n nb lim : Nat} {ks : List Nat} {cur : AFrame} {callers : List AFrame} {live : List Nat} {V : Seen}
    (hv : see (chunkTo? K.P O ext sum f n ks ⟨cur, callers, ⟨[], nb, lim⟩⟩) live = some V) (hl : cfgLow nb ⟨cur, callers, ⟨[], nb, lim⟩⟩ = true) (hO : O.low nb = true) {ρ : Env} {fr : Frame} {frs cs : List Frame} (hf : FrRel K.P ρ cur fr) (hfs : FrRels K.P ρ callers frs)
    (hb : ∀ p ∈ O.bs, p.1.ev ρ = p.2) (hi : ∀ p ∈ O.is, p.1.ev ρ = p.2.ev ρ) (hm : ∀ p ∈ O.mem, w.cell? (p.1.ev ρ) = some (p.2.ev ρ)) :
    Walk K.P main (DK K) (fun g' w' => ∃ ρ' c' fr' frs', Came1 K (Below nb) ρ (fun n => w.heap.size ≤ n) (fun _ _ => False) O cs live V w g' w' ρ' c' fr' frs') 0 (G fr (frs ++ cs)) w :=
  piece (still := fun _ _ => False) Gd hnew F (X (sub_good Gd hnew)) (Z (sub_good Gd hnew)) hv hl rfl hO hf hfs (rel_new ⟨hb, hi, fun p hp => ⟨Nat.not_le.2 (cellLt (hm p hp)), hm p hp, fun s => ⟨hrd _ s, fun b n s e => by cases e⟩⟩⟩ (fun n hn => hn) fun b n h => h.elim (hlow b n) False.elim)

/-- Memory of one's own, block by block. -/
theorem rel_blocks {K : Ctx} {ρ : Env} {w : World} {O : Orc} {own : Nat → Prop} {still : Nat → Nat → Prop} {hp : List (Nat × ABlk)} {nb lim : Nat} (h1 : ∀ p ∈ hp, ∃ o, w.heap[ρ.b p.1]? = some o ∧ p.2.is K.P ρ o) (h2 : ∀ p ∈ hp, own (ρ.b p.1)) (h3 : (hp.map fun p => ρ.b p.1).Nodup) (h4 : ∀ p ∈ hp, ∀ n, (K.still (ρ.b p.1) n ∨ still (ρ.b p.1) n) → p.2.lentAt K.P ρ n)
    (F : FactsAt (K.sub O own still) O ρ w) (hnew : ∀ n, w.heap.size ≤ n → own n) (hlow : ∀ b n, K.still b n ∨ still b n → b < w.heap.size) : Rel (K.sub O own still) ρ ⟨hp, nb, lim⟩ w :=
  ⟨fun i b hb => h1 (i, b) (find_mem hb), fun i b hb => .inl (h2 (i, b) (find_mem hb)), fun i j b c hb hc e => by
      have := inj_of_nodup (f := fun p : Nat × ABlk => ρ.b p.1) h3 (find_mem hb) (find_mem hc) e
      exact congrArg Prod.fst this, F.bs, F.is, F.mem, hnew, fun i b hb n hs => h4 (i, b) (find_mem hb) n hs, hlow⟩

/-! ### Arrays -/
/-- The cells of a block from a place on. -/
def ArrAt (w : World) (b off : Nat) (xs : List Value) : Prop := ∀ k v, xs[k]? = some v → w.cell? ⟨b, off + k, none⟩ = some v
theorem ArrAt.keep {w w' : World} {b off : Nat} {xs : List Value} (h : ArrAt w b off xs) {own : Nat → Prop} (kp : Keeps own w w') (hb : ¬ own b) : ArrAt w' b off xs := fun k v hk => by
  have := h k v hk
  simp only [World.cell?] at this ⊢
  rw [kp.heap b hb]; exact this
theorem ArrAt.stay {w w' : World} {b off : Nat} {xs : List Value} (h : ArrAt w b off xs) {still : Nat → Nat → Prop} (st : Stays still w w') (hb : ∀ k, k < xs.length → still b (off + k)) : ArrAt w' b off xs := fun k v hk => st _ _ _ (hb k (List.getElem?_eq_some_iff.1 hk).1) (h k v hk)
theorem ArrAt.lt {w : World} {b off : Nat} {xs : List Value} (h : ArrAt w b off xs) {k : Nat} {v : Value} (hk : xs[k]? = some v) : b < w.heap.size := cellLt (h k v hk)

/-! ### Veiled lists: facts, and what was written taken in -/
section
variable {P : Program} {ρ : Env}
/-- What a veiled list's block holds now. -/
theorem pre_now {lk : Bool} {s : Nat} {n : IE} {fs ws : List (IE × AV)} {cs : List AV} {e : TypeId} {c : IE} {o : Obj} (h : (ABlk.pre lk s n fs ws cs e c).is P ρ o) : ∃ arr pre rest i, o = .cells arr e (0, 0) ∧ PreIs P ρ s n fs ws e i pre ∧ arr.toList = wrote ρ pre.toList ws ++ (AV.evs ρ cs ++ rest) ∧ arr.size = (c.ev ρ).toNat * i.size := by
  rcases h with ⟨arr, rfl, pre, rest, i, h1, h2, h3⟩ | h
  · exact ⟨arr, pre, rest, i, rfl, h1, h2, h3⟩
  · exact h.elim
/-- In other words: the list is that one now. -/
theorem pre_anew {lk : Bool} {s : Nat} {n c : IE} {fs : List (IE × AV)} {e : TypeId} {i : TypeInfo} {arr : Array Value} {xs rest : List Value} (hx : arr.toList = xs ++ rest) (hi : P.info? e = some i) (hv : ρ.v s = .agg xs.toArray) (hn : xs.length = (n.ev ρ).toNat * i.size) (hf : ∀ p ∈ fs, xs[(p.1.ev ρ).toNat]? = some (p.2.ev ρ)) (hc : arr.size = (c.ev ρ).toNat * i.size) :
    (ABlk.pre lk s n fs [] [] e c).is P ρ (.cells arr e (0, 0)) :=
  .inl ⟨arr, rfl, xs.toArray, rest, i, ⟨hv, hi, by simpa using hn, fun p hp => by simpa using hf p hp, fun p hp => by cases hp⟩, by simpa [wrote, AV.evs] using hx, hc⟩
end
/-! ### Lists that grow -/
/-- An array whose first cells are these; so many elements of room. -/
structure VecAt (P : Program) (w : World) (e L : Nat) (xs : List Value) (cap : Nat) : Prop where
  ex : ∃ arr rest i, w.heap[L]? = some (.cells arr e (0, 0)) ∧ P.info? e = some i ∧ arr.toList = xs ++ rest ∧ arr.size = cap * i.size
theorem VecAt.arr {P : Program} {w : World} {e L : Nat} {xs : List Value} {cap : Nat} (h : VecAt P w e L xs cap) : ArrAt w L 0 xs := fun k v hk => by
  obtain ⟨arr, rest, i, h1, h2, h3, h4⟩ := h.ex
  rw [cell?_of h1, Nat.zero_add, ← Array.getElem?_toList, h3, List.getElem?_append_left (List.getElem?_eq_some_iff.1 hk).1]
  exact hk
theorem VecAt.lt {P : Program} {w : World} {e L : Nat} {xs : List Value} {cap : Nat} (h : VecAt P w e L xs cap) : L < w.heap.size := by
  obtain ⟨arr, rest, i, h1, _⟩ := h.ex
  exact heap_lt h1
theorem VecAt.keep {P : Program} {w w' : World} {e L : Nat} {xs : List Value} {cap : Nat} (h : VecAt P w e L xs cap) {own : Nat → Prop} (kp : Keeps own w w') (hb : ¬ own L) : VecAt P w' e L xs cap := by
  obtain ⟨arr, rest, i, h1, h2⟩ := h.ex
  exact ⟨arr, rest, i, by rw [kp.heap L hb]; exact h1, h2⟩
/-- As a veiled list. -/
theorem VecAt.is {P : Program} {w : World} {e L : Nat} {xs : List Value} {cap : Nat} (h : VecAt P w e L xs cap) {ρ : Env} {lk : Bool} {s : Nat} {n c : IE} {fs : List (IE × AV)} (hv : ρ.v s = .agg xs.toArray) (hn : ∀ i, P.info? e = some i → xs.length = (n.ev ρ).toNat * i.size) (hf : ∀ p ∈ fs, xs[(p.1.ev ρ).toNat]? = some (p.2.ev ρ)) (hc : (c.ev ρ).toNat = cap) :
    ∃ o, w.heap[L]? = some o ∧ (ABlk.pre lk s n fs [] [] e c).is P ρ o := by
  obtain ⟨arr, rest, i, h1, h2, h3, h4⟩ := h.ex
  exact ⟨_, h1, pre_anew h3 h2 hv (hn i h2) hf (by rw [hc]; exact h4)⟩
/-- Off a veiled list. -/
theorem vec_of_pre {K : Ctx} {ρ : Env} {h : AH} {w : World} (R : Rel K ρ h w) {k : Nat} {lk : Bool} {s : Nat} {n c : IE} {fs ws : List (IE × AV)} {cs : List AV} {e : TypeId} (hb : findB k h.hp = some (.pre lk s n fs ws cs e c)) {xs : List Value} (hv : ρ.v s = .agg xs.toArray) : VecAt K.P w e (ρ.b k) (wrote ρ xs ws ++ AV.evs ρ cs) (c.ev ρ).toNat := by
  obtain ⟨o, ho, hi⟩ := R.blk k _ hb
  obtain ⟨arr, pre, rest, i, rfl, h1, h2, h3⟩ := pre_now hi
  have : pre.toList = xs := by have := h1.val; rw [hv] at this; cases this; rfl
  exact ⟨arr, rest, i, ho, h1.info, by rw [h2, this, List.append_assoc], h3⟩
/-- Off a row. -/
theorem vec_of_row {K : Ctx} {ρ : Env} {h : AH} {w : World} (R : Rel K ρ h w) {k : Nat} {c : IE} {cs : List AV} {e : TypeId} (hb : findB k h.hp = some (.row cs e c)) : VecAt K.P w e (ρ.b k) (AV.evs ρ cs) (c.ev ρ).toNat := by
  obtain ⟨arr, ho, rest, i, h1, h2, h3⟩ := R.arr hb rfl
  exact ⟨arr, rest, i, ho, h2, h1, h3⟩

end Go.Proofs.YtmnahfonnljobaaGreatDoor.SX
/-
  Pieces of runs: callers told anew; a last piece, to the end.
-/
set_option linter.unusedSectionVars false
set_option linter.unusedVariables false
set_option linter.unusedSimpArgs false
namespace Go.Proofs.YtmnahfonnljobaaGreatDoor.SX
open Go.Conc

/-! ### Callers, too -/
noncomputable def frSeen (fr : AFrame) (live : List Nat) : Seen := ⟨fr.fn, fr.nt, fr.todo, fr.defers, fr.mode, fr.kind, [], [], live.map fun n => fr.tmps.get n⟩
/-- What is seen of a piece's end, of each caller what its function's list names. -/
noncomputable def seeF (r : M ACfg) (live : List Nat) (lives : FuncId → List Nat) : Option (Seen × List Seen) :=
  match r with
  | .ok ⟨cur, callers, h⟩ => some (seenOf ⟨cur, [], h⟩ live, callers.map fun fr => frSeen fr (lives fr.fn))
  | .error _ => none
noncomputable def Seen.under (V : Seen) (cl : List AFrame) : Seen := ⟨V.fn, V.nt, V.todo, V.defers, V.mode, V.kind, cl, V.hp, V.vals⟩
theorem seeF_ok {r : M ACfg} {live : List Nat} {lives : FuncId → List Nat} {V : Seen} {Vs : List Seen} (h : seeF r live lives = some (V, Vs)) : ∃ cl, see r live = some (V.under cl) ∧ cl.map (fun fr => frSeen fr (lives fr.fn)) = Vs := by
  cases r with
  | error e => cases h
  | ok c =>
    obtain ⟨cur, cl, hh⟩ := c
    have h' : (seenOf ⟨cur, [], hh⟩ live, cl.map fun fr => frSeen fr (lives fr.fn)) = (V, Vs) := Option.some.inj h
    obtain ⟨h1, h2⟩ := Prod.mk.inj h'
    subst h1
    exact ⟨cl, rfl, h2⟩

theorem FrRel.toldF {P : Program} {ρ : Env} {fr : AFrame} {g : Frame} (h : FrRel P ρ fr g) {lv : List (Nat × AV)} {fn : FuncId} {nt : Nat} {todo : List Item} {kind : CallKind} {vals : List AV} (s : frSeen fr (lv.map (·.1)) = ⟨fn, nt, todo, [], .run, kind, [], [], vals⟩) (hk : plainK kind) :
    ∃ st, ∀ ρ2 : Env, AV.evs ρ2 (lv.map (·.2)) = AV.evs ρ vals → FrRel P ρ2 ⟨fn, nt, tmpsOf nt st lv, todo, [], .run, kind⟩ g := by
  obtain ⟨fn', nt', t, todo', ds, mode, kind'⟩ := fr
  simp only [frSeen, Seen.mk.injEq] at s
  obtain ⟨rfl, rfl, rfl, rfl, rfl, rfl, _, _, s4⟩ := s
  refine ⟨_, fun ρ2 hv => h.tell (ρ' := ρ2) rfl hk rfl (live := lv) ?_⟩
  refine look_map (P := fun n a => a.ev ρ2 = (t.get n).ev ρ) (told_pairs ?_)
  rw [hv, ← s4, List.map_map]
  rfl
/-- Likewise, of a frame that defers calls. -/
theorem FrRel.toldD {P : Program} {ρ : Env} {fr : AFrame} {g : Frame} (h : FrRel P ρ fr g) {lv : List (Nat × AV)} {fn : FuncId} {nt : Nat} {todo : List Item} {kind : CallKind} {vals : List AV} {ds : List AD} (s : frSeen fr (lv.map (·.1)) = ⟨fn, nt, todo, ds, .run, kind, [], [], vals⟩) (hk : plainK kind) :
    ∃ st, ∀ (ρ2 : Env) (ds2 : List AD), AV.evs ρ2 (lv.map (·.2)) = AV.evs ρ vals → ds2.map (AD.ev ρ2) = ds.map (AD.ev ρ) → FrRel P ρ2 ⟨fn, nt, tmpsOf nt st lv, todo, ds2, .run, kind⟩ g := by
  obtain ⟨fn', nt', t, todo', ds', mode, kind'⟩ := fr
  simp only [frSeen, Seen.mk.injEq] at s
  obtain ⟨rfl, rfl, rfl, rfl, rfl, rfl, _, _, s4⟩ := s
  have hle : nt' ≤ 60000 := by obtain ⟨tm, td, i, _⟩ := h; exact i.tmps.le
  refine ⟨fun n => (t.get n).ev ρ, fun ρ2 ds2 hv hd => ?_⟩
  have hl := look_map (P := fun n a => a.ev ρ2 = (t.get n).ev ρ) (lv := lv) (told_pairs (by
    rw [hv, ← s4, List.map_map]
    rfl))
  refine h.move rfl rfl rfl rfl rfl rfl hk hd (fun n hn => ?_) (fun n hn => ?_)
  · dsimp only at hn ⊢
    rw [tmpsOf_get hle, if_pos hn]
    cases e : look (fun a b => Nat.beq a b) n lv with
    | none => simp [AV.ev]
    | some a => exact hl n a e
  · dsimp only at hn ⊢
    rw [tmpsOf_get hle, if_neg (by omega)]
theorem map_two {α β : Type} {f : α → β} : ∀ {l : List α} {x y : β}, l.map f = [x, y] → ∃ a b, l = [a, b] ∧ f a = x ∧ f b = y
  | [a, b], _, _, h => by
    simp only [List.map_cons, List.map_nil, List.cons.injEq, and_true] at h
    exact ⟨a, b, rfl, h.1, h.2⟩
  | [], _, _, h => by cases h
  | [_], _, _, h => by cases h
  | _ :: _ :: _ :: _, _, _, h => by simp at h
theorem map_one {α β : Type} {f : α → β} : ∀ {l : List α} {x : β}, l.map f = [x] → ∃ a, l = [a] ∧ f a = x
  | [a], _, h => by
    simp only [List.map_cons, List.map_nil, List.cons.injEq, and_true] at h
    exact ⟨a, rfl, h⟩
  | [], _, h => by cases h
  | _ :: _ :: _, _, h => by simp at h
theorem map_three {α β : Type} {f : α → β} : ∀ {l : List α} {x y z : β}, l.map f = [x, y, z] → ∃ a b c, l = [a, b, c] ∧ f a = x ∧ f b = y ∧ f c = z
  | [a, b, c], _, _, _, h => by
    simp only [List.map_cons, List.map_nil, List.cons.injEq, and_true] at h
    exact ⟨a, b, c, rfl, h.1, h.2.1, h.2.2⟩
  | [], _, _, _, h => by cases h
  | [_], _, _, _, h => by cases h
  | [_, _], _, _, _, h => by simp at h
  | _ :: _ :: _ :: _ :: _, _, _, _, h => by simp at h
theorem frs_one {P : Program} {ρ : Env} {a : AFrame} : ∀ {l : List Frame}, FrRels P ρ [a] l → ∃ f, l = [f] ∧ FrRel P ρ a f
  | [f], h => ⟨f, rfl, h.1⟩
  | [], h => h.elim
  | _ :: _ :: _, h => h.2.elim
theorem frs_three {P : Program} {ρ : Env} {a b c : AFrame} : ∀ {l : List Frame}, FrRels P ρ [a, b, c] l → ∃ f g h, l = [f, g, h] ∧ FrRel P ρ a f ∧ FrRel P ρ b g ∧ FrRel P ρ c h
  | [f, g, k], h => ⟨f, g, k, rfl, h.1, h.2.1, h.2.2.1⟩
  | [], h => h.elim
  | [_], h => h.2.elim
  | [_, _], h => h.2.2.elim
  | _ :: _ :: _ :: _ :: _, h => h.2.2.2.elim
theorem frs_two {P : Program} {ρ : Env} {a b : AFrame} : ∀ {l : List Frame}, FrRels P ρ [a, b] l → ∃ f g, l = [f, g] ∧ FrRel P ρ a f ∧ FrRel P ρ b g
  | [f, g], h => ⟨f, g, rfl, h.1, h.2.1⟩
  | [], h => h.elim
  | [_], h => h.2.elim
  | _ :: _ :: _ :: _, h => h.2.2.elim

/-! ### A last piece -/
theorem wq_lax {α : Type} {P : Program} {Ev Ev' : Event → Prop} {E : Value → World → Prop} (he : ∀ e, Ev e → Ev' e) {s : Sem α} : ∀ {Q : α → World → Prop} {w : World}, wq P Ev E s Q w → wq P Ev' E s Q w := by
  induction s with
  | pure a => intro Q w h; exact h
  | load m a k ih => intro Q w h; obtain ⟨v, h1, h2, h3⟩ := h; exact ⟨v, h1, he _ h2, ih _ h3⟩
  | store m a v k ih => intro Q w h; obtain ⟨h1, h2, h3, h4, h5⟩ := h; exact ⟨h1, h2, h3, he _ h4, ih h5⟩
  | new o k ih => intro Q w h; exact ih _ h
  | shape r k ih => intro Q w h; exact ih _ h
  | freeze a n k ih => intro Q w h; exact h
  | frozen a k ih => intro Q w h; exact ih _ h
  | getObj r k ih => intro Q w h; obtain ⟨o, h1, h2, h3, h4⟩ := h; exact ⟨o, h1, h2, he _ h3, ih _ h4⟩
  | setObj r o k ih => intro Q w h; obtain ⟨h1, h2, h3⟩ := h; exact ⟨h1, he _ h2, ih h3⟩
  | choose q k ih =>
    intro Q w h
    simp only [wq] at h ⊢
    split
    · rename_i hq; rw [if_pos hq] at h; exact ih _ h
    · rename_i hq; rw [if_neg hq] at h; exact fun n => ih _ (h n)
  | sys c k ih => intro Q w h; exact h
  | program k ih => intro Q w h; exact ih _ h
  | mark m k ih => intro Q w h; exact ⟨he _ h.1, ih h.2⟩
  | halt h => intro Q w hh; cases h <;> exact hh

noncomputable def isT : M (AE × AH) → Bool
  | .ok (.returned (.bool (.lit true)), _) => true
  | _ => false
theorem isT_ok {r : M (AE × AH)} (h : isT r = true) : ∃ h', r = .ok (.returned (.bool (.lit true)), h') := by
  unfold isT at h
  split at h
  · exact ⟨_, rfl⟩
  · cases h

/-- It answers true. -/
def Trues (K : Ctx) (f : FuncId) (own : Nat → Prop) (cs : List Frame) (w : World) (g' : Goroutine) (w' : World) : Prop := Keeps own w w' ∧ ∃ ρ', EndsAs K f ρ' (.returned (.bool (.lit true))) cs g' w'

theorem piece_end {K : Ctx} {main : Bool} (Gd : K.Good) {own : Nat → Prop} {still : Nat → Nat → Prop} (hown : ∀ n, own n → K.own n) {O : Orc} {ext : Ext} {sum : Sums} (F : (K.sub O own still).Facts) (X : ExtOk (K.sub O own still) ext) (Z : SumOk (K.sub O own still) main sum) {n : Nat} {c : ACfg}
    (hv : isT (run? K.P O ext sum n c) = true) {nb : Nat} (hl : cfgLow nb c = true) (hnb : c.h.nb = nb) (hO : O.low nb = true) {ρ : Env} {fr : Frame} {frs cs : List Frame} {w : World} (hf : FrRel K.P ρ c.cur fr) (hfs : FrRels K.P ρ c.callers frs) (R : Rel (K.sub O own still) ρ c.h w) :
    Walk K.P main (DK K) (Trues K (bot c.cur.fn c.callers) own cs w) 0 (G fr (frs ++ cs)) w := by
  obtain ⟨h', hc⟩ := isT_ok hv
  obtain ⟨N, E⟩ := run_ok (K := K.sub O own still) (main := main) (sub_good Gd hown) F X Z hc
  have W := E (Below nb) ρ cs (G fr (frs ++ cs)) w (cfgLow_in (K := K.sub O own still) hl hnb hO) ⟨R, fr, frs, hf, hfs, rfl⟩
  refine (Walk.weaken (fun g' w' hd => ?_) (W.lax (sub_dk hown))).any
  obtain ⟨ρ', _, kp, _, _, _, fr', fn', e1, e2, e3, e4, m1, m2, m3⟩ := hd
  exact ⟨kp, ρ', fr', fn', e1, e2, e3, e4, m1, m2, fun d {Q} hq => wq_lax (fun e h => h.1) (m3 d hq)⟩

/-- Loops over functions as summaries, in every context of one hearing. -/
theorem rfSum_lock {P : Program} {O : Orc} {ext : Ext} {sum : Sums} {n y : Nat} {fs : List FuncId} (lock : Prop) (hO : O.noq y = true) (facts : ∀ own Ev still, (⟨P, O, own, Ev, lock, still⟩ : Ctx).Facts) (hx : ∀ own Ev still, (⟨P, O, own, Ev, lock, still⟩ : Ctx).Good → ExtOk ⟨P, O, own, Ev, lock, still⟩ ext)
    (hs : ∀ own Ev still main, (⟨P, O, own, Ev, lock, still⟩ : Ctx).Good → SumOk ⟨P, O, own, Ev, lock, still⟩ main sum) :
    ∀ own Ev still main, (⟨P, O, own, Ev, lock, still⟩ : Ctx).Good → SumOk ⟨P, O, own, Ev, lock, still⟩ main (rfSum P O ext sum n y fs) := by
  intro own Ev still main Gd f args h r he
  unfold rfSum at he
  split at he
  rotate_left
  · cases he
  have he2 := Option.some.inj he
  have cOk : ∀ own', (⟨P, O, own', Ev, lock, still⟩ : Ctx).Good → CallOk ⟨P, O, own', Ev, lock, still⟩ main (fun g args h => match sum g args h with
      | some r => r
      | none => match enterA P g args .normal with
        | .ok fr => run? P O ext sum n ⟨fr, [], h⟩
        | .error e => .error e) := fun own' G' =>
    callOk_of (K := ⟨P, O, own', Ev, lock, still⟩) (main := main) (hs _ _ _ _ G') (k := run? P O ext sum n) (run_ok G' (facts _ _ _) (hx _ _ _ G') (hs _ _ _ _ G'))
  exact rf_ok (K := ⟨P, O, own, Ev, lock, still⟩) Gd (facts _ _ _) (hx _ _ _ Gd) (fun D l => hx _ _ _ (less_good Gd)) (cOk _ Gd) (fun D l => cOk _ (less_good Gd)) hO he2

/-- The cells of a block that is told whole. -/
theorem arr_of_cells {K : Ctx} {ρ : Env} {h : AH} {w : World} (R : Rel K ρ h w) {k : Nat} {cs : List AV} {e : TypeId} (hb : findB k h.hp = some (.cells cs e)) : ArrAt w (ρ.b k) 0 (AV.evs ρ cs) := fun n v hk => by
  obtain ⟨arr, ha, hf⟩ := R.arr hb rfl
  have h1 : arr.toList = AV.evs ρ cs := hf
  rw [cell?_of ha, Nat.zero_add, ← Array.getElem?_toList, h1]
  exact hk
end Go.Proofs.YtmnahfonnljobaaGreatDoor.SX
