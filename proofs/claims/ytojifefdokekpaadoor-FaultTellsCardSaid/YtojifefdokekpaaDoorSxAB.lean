/-
  A symbolic run of the model, proved sound, and its use on the given code: a text of its parts. Conditions: none.
-/
import Derived.Test.YtojifefdokekpaaDoorSxAA
import Derived.Laws.StructEq
set_option linter.unusedSectionVars false
namespace Go.Proofs.YtojifefdokekpaaDoor.SX
def IE.In (U : Nat → Prop) : IE → Prop
  | .lit _ => True
  | .var i => U i
  | .op _ _ a b => a.In U ∧ b.In U
  | .conv _ a => a.In U
  | .plus a b => a.In U ∧ b.In U
  | .times a b => a.In U ∧ b.In U
  | .tn a => a.In U
  | .slen _ => True
def BE.In (U : Nat → Prop) : BE → Prop
  | .lit _ => True
  | .var _ => True
  | .cmp _ a b => a.In U ∧ b.In U
  | .seq _ _ _ => True
def BR.In (U : Nat → Prop) : BR → Prop
  | .glob _ => True
  | .dyn i => U i
def AA.In (U : Nat → Prop) (a : AA) : Prop := a.blk.In U ∧ a.off.In U
def optIn {α : Type} (f : α → Prop) : Option α → Prop
  | none => True
  | some a => f a
mutual
def AV.In (U : Nat → Prop) : AV → Prop
  | .bool b => b.In U
  | .int _ e => e.In U
  | .ptr a => optIn (AA.In U) a
  | .slice a l c => optIn (AA.In U) a ∧ l.In U ∧ c.In U
  | .map r => optIn (BR.In U) r
  | .chan r => optIn (BR.In U) r
  | .func _ x y => AV.Ins U x ∧ AV.Ins U y
  | .iface _ v => v.In U
  | .agg x => AV.Ins U x
  | .tuple x => AV.Ins U x
  | .str _ => True
  | .nilFunc => True
  | .nilIface => True
  | .opq _ => True
  | .raw _ => True
  | .ss _ => True
def AV.Ins (U : Nat → Prop) : List AV → Prop
  | [] => True
  | a :: x => a.In U ∧ AV.Ins U x
end
def ABlk.In (U : Nat → Prop) : ABlk → Prop
  | .cells cs _ => AV.Ins U cs
  | .row cs _ c => AV.Ins U cs ∧ c.In U
  | .lent cs _ _ => AV.Ins U cs
  | .map es => ∀ p ∈ es, p.1.In U ∧ p.2.In U
  | .chan => True
  | .vmap _ n fs ws => n.In U ∧ (∀ p ∈ fs, p.1.In U ∧ optIn (AV.In U) p.2) ∧ ∀ p ∈ ws, p.1.In U ∧ p.2.In U
  | .pre _ _ n fs ws cs _ c => n.In U ∧ (∀ p ∈ fs, p.1.In U ∧ p.2.In U) ∧ (∀ p ∈ ws, p.1.In U ∧ p.2.In U) ∧ AV.Ins U cs ∧ c.In U
def TT.In (U : Nat → Prop) (t : TT) : Prop := ∀ n, (t.get n).In U
structure Orc.In (U : Nat → Prop) (O : Orc) : Prop where
  bs : ∀ p ∈ O.bs, p.1.In U
  is : ∀ p ∈ O.is, p.1.In U ∧ p.2.In U
  mem : ∀ p ∈ O.mem, p.1.In U ∧ p.2.In U
theorem Ins_iff {U : Nat → Prop} : ∀ {l : List AV}, AV.Ins U l ↔ ∀ a ∈ l, a.In U
  | [] => by simp [AV.Ins]
  | a :: l => by simp [AV.Ins, Ins_iff (l := l)]
structure Agree (U : Nat → Prop) (ρ ρ' : Env) : Prop where
  p : ρ'.p = ρ.p
  v : ρ'.v = ρ.v
  bt : ρ'.bt = ρ.bt
  i : ∀ n, U n → ρ'.i n = ρ.i n
  b : ∀ n, U n → ρ'.b n = ρ.b n
  s : ρ'.s = ρ.s
theorem Agree.refl (U : Nat → Prop) (ρ : Env) : Agree U ρ ρ := ⟨rfl, rfl, rfl, fun _ _ => rfl, fun _ _ => rfl, rfl⟩
theorem Agree.trans {U U' : Nat → Prop} {ρ ρ' ρ'' : Env} (h : Agree U ρ ρ') (h' : Agree U' ρ' ρ'') (hs : ∀ n, U n → U' n) : Agree U ρ ρ'' :=
  ⟨h'.p.trans h.p, h'.v.trans h.v, h'.bt.trans h.bt, fun n hn => (h'.i n (hs n hn)).trans (h.i n hn), fun n hn => (h'.b n (hs n hn)).trans (h.b n hn), h'.s.trans h.s⟩
theorem Agree.mono {U U' : Nat → Prop} {ρ ρ' : Env} (h : Agree U' ρ ρ') (hs : ∀ n, U n → U' n) : Agree U ρ ρ' :=
  ⟨h.p, h.v, h.bt, fun n hn => h.i n (hs n hn), fun n hn => h.b n (hs n hn), h.s⟩
section
variable {U : Nat → Prop} {ρ ρ' : Env}
theorem SE.ev_agree (h : Agree U ρ ρ') {e : SE} : e.ev ρ' = e.ev ρ := by
  induction e with
  | lit s => rfl
  | var i => simp only [SE.ev, h.s]
  | cat a b iha ihb => simp only [SE.ev, iha, ihb]
theorem IE.ev_agree (h : Agree U ρ ρ') : ∀ {e : IE}, e.In U → e.ev ρ' = e.ev ρ := by
  intro e
  induction e with
  | lit n => intro _; rfl
  | var i => intro hi; exact h.i i hi
  | op o k a b iha ihb => intro hi; simp only [IE.ev]; rw [iha hi.1, ihb hi.2]
  | conv k a ih => intro hi; simp only [IE.ev]; rw [ih hi]
  | plus a b iha ihb => intro hi; simp only [IE.ev]; rw [iha hi.1, ihb hi.2]
  | times a b iha ihb => intro hi; simp only [IE.ev]; rw [iha hi.1, ihb hi.2]
  | tn a ih => intro hi; simp only [IE.ev]; rw [ih hi]
  | slen a => intro _; simp only [IE.ev]; rw [SE.ev_agree h]
theorem BE.ev_agree (h : Agree U ρ ρ') {e : BE} (hi : e.In U) : e.ev ρ' = e.ev ρ := by
  cases e with
  | lit b => rfl
  | var i => simp [BE.ev, h.p]
  | cmp o a b => simp only [BE.ev]; rw [IE.ev_agree h hi.1, IE.ev_agree h hi.2]
  | seq n a b => simp only [BE.ev]; rw [SE.ev_agree h, SE.ev_agree h]
theorem BR.ev_agree (h : Agree U ρ ρ') {e : BR} (hi : e.In U) : e.ev ρ' = e.ev ρ := by
  cases e with
  | glob g => rfl
  | dyn i => exact h.b i hi
theorem AA.ev_agree (h : Agree U ρ ρ') {e : AA} (hi : e.In U) : e.ev ρ' = e.ev ρ := by
  simp only [AA.ev, BR.ev_agree h hi.1, IE.ev_agree h hi.2]
theorem opt_agree {α β : Type} {f g : α → β} {I : α → Prop} (hf : ∀ {a}, I a → f a = g a) : ∀ {o : Option α}, optIn I o → o.map f = o.map g
  | none, _ => rfl
  | some a, h => by simp [hf h]
mutual
theorem AV.ev_agree (h : Agree U ρ ρ') : ∀ (a : AV), a.In U → a.ev ρ' = a.ev ρ
  | .bool b, hi => by simp only [AV.ev, BE.ev_agree h hi]
  | .int k e, hi => by simp only [AV.ev, IE.ev_agree h hi]
  | .str s, _ => rfl
  | .ptr a, hi => by simp only [AV.ev]; rw [opt_agree (fun x => AA.ev_agree h x) hi]
  | .slice a l c, hi => by simp only [AV.ev]; rw [opt_agree (fun x => AA.ev_agree h x) hi.1, IE.ev_agree h hi.2.1, IE.ev_agree h hi.2.2]
  | .map r, hi => by simp only [AV.ev]; rw [opt_agree (fun x => BR.ev_agree h x) hi]
  | .chan r, hi => by simp only [AV.ev]; rw [opt_agree (fun x => BR.ev_agree h x) hi]
  | .func f x y, hi => by simp only [AV.ev]; rw [AV.evs_agree h x hi.1, AV.evs_agree h y hi.2]
  | .nilFunc, _ => rfl
  | .iface t v, hi => by simp only [AV.ev]; rw [AV.ev_agree h v hi]
  | .nilIface, _ => rfl
  | .agg x, hi => by simp only [AV.ev]; rw [AV.evs_agree h x hi]
  | .tuple x, hi => by simp only [AV.ev]; rw [AV.evs_agree h x hi]
  | .opq i, _ => by simp only [AV.ev, h.v]
  | .raw v, _ => rfl
  | .ss e, _ => by simp only [AV.ev]; rw [SE.ev_agree h]
theorem AV.evs_agree (h : Agree U ρ ρ') : ∀ (l : List AV), AV.Ins U l → AV.evs ρ' l = AV.evs ρ l
  | [], _ => rfl
  | a :: l, hi => by simp only [AV.evs]; rw [AV.ev_agree h a hi.1, AV.evs_agree h l hi.2]
end
end
section
variable {U U' : Nat → Prop} (hs : ∀ n, U n → U' n)
 include hs
theorem IE.In.mono : ∀ {e : IE}, e.In U → e.In U' := by
  intro e
  induction e with
  | lit n => intro _; trivial
  | var i => exact hs i
  | op o k a b iha ihb => exact fun h => ⟨iha h.1, ihb h.2⟩
  | conv k a ih => exact ih
  | plus a b iha ihb => exact fun h => ⟨iha h.1, ihb h.2⟩
  | times a b iha ihb => exact fun h => ⟨iha h.1, ihb h.2⟩
  | tn a ih => exact ih
  | slen a => exact fun _ => trivial
theorem BE.In.mono {e : BE} (h : e.In U) : e.In U' := by
  cases e with
  | cmp o a b => exact ⟨IE.In.mono hs h.1, IE.In.mono hs h.2⟩
  | _ => trivial
theorem BR.In.mono {e : BR} (h : e.In U) : e.In U' := by
  cases e with
  | glob g => trivial
  | dyn i => exact hs i h
theorem AA.In.mono {e : AA} (h : e.In U) : e.In U' := ⟨BR.In.mono hs h.1, IE.In.mono hs h.2⟩
theorem optIn.mono {α : Type} {f g : α → Prop} (hf : ∀ {a}, f a → g a) : ∀ {o : Option α}, optIn f o → optIn g o
  | none, _ => trivial
  | some _, h => hf h
mutual
theorem AV.In.mono : ∀ (a : AV), a.In U → a.In U'
  | .bool _, h => BE.In.mono hs h
  | .int _ _, h => IE.In.mono hs h
  | .str _, _ => trivial
  | .ptr _, h => optIn.mono hs (fun x => AA.In.mono hs x) h
  | .slice _ _ _, h => ⟨optIn.mono hs (fun x => AA.In.mono hs x) h.1, IE.In.mono hs h.2.1, IE.In.mono hs h.2.2⟩
  | .map _, h => optIn.mono hs (fun x => BR.In.mono hs x) h
  | .chan _, h => optIn.mono hs (fun x => BR.In.mono hs x) h
  | .func _ x y, h => ⟨AV.Ins.mono x h.1, AV.Ins.mono y h.2⟩
  | .nilFunc, _ => trivial
  | .iface _ v, h => AV.In.mono v h
  | .nilIface, _ => trivial
  | .agg x, h => AV.Ins.mono x h
  | .tuple x, h => AV.Ins.mono x h
  | .opq _, _ => trivial
  | .raw _, _ => trivial
  | .ss _, _ => trivial
theorem AV.Ins.mono : ∀ (l : List AV), AV.Ins U l → AV.Ins U' l
  | [], _ => trivial
  | a :: l, h => ⟨AV.In.mono a h.1, AV.Ins.mono l h.2⟩
end
theorem ABlk.In.mono {b : ABlk} (h : b.In U) : b.In U' := by
  cases b with
  | cells cs e => exact AV.Ins.mono hs _ h
  | row cs e c => exact ⟨AV.Ins.mono hs _ h.1, IE.In.mono hs h.2⟩
  | lent cs e l => exact AV.Ins.mono hs _ h
  | map es => exact fun p hp => ⟨AV.In.mono hs _ (h p hp).1, AV.In.mono hs _ (h p hp).2⟩
  | chan => trivial
  | vmap s n fs ws => exact ⟨IE.In.mono hs h.1, fun p hp => ⟨AA.In.mono hs (h.2.1 p hp).1, optIn.mono hs (fun x => AV.In.mono hs _ x) (h.2.1 p hp).2⟩, fun p hp => ⟨AV.In.mono hs _ (h.2.2 p hp).1, AV.In.mono hs _ (h.2.2 p hp).2⟩⟩
  | pre lk s n fs ws cs e c => exact ⟨IE.In.mono hs h.1, fun p hp => ⟨IE.In.mono hs (h.2.1 p hp).1, AV.In.mono hs _ (h.2.1 p hp).2⟩, fun p hp => ⟨IE.In.mono hs (h.2.2.1 p hp).1, AV.In.mono hs _ (h.2.2.1 p hp).2⟩, AV.Ins.mono hs _ h.2.2.2.1, IE.In.mono hs h.2.2.2.2⟩
theorem TT.In.mono {t : TT} (h : t.In U) : t.In U' := fun n => AV.In.mono hs _ (h n)
theorem Orc.In.mono {O : Orc} (h : O.In U) : O.In U' :=
  ⟨fun p hp => BE.In.mono hs (h.bs p hp), fun p hp => ⟨IE.In.mono hs (h.is p hp).1, IE.In.mono hs (h.is p hp).2⟩, fun p hp => ⟨AA.In.mono hs (h.mem p hp).1, AV.In.mono hs _ (h.mem p hp).2⟩⟩
end
structure Ctx where
  P : Program
  O : Orc
  own : Nat → Prop
  Ev : Event → Prop
  lock : Prop
  still : Nat → Nat → Prop
def markOk : Mark → Bool
  | .acquire _ | .release _ | .releaseMerge _ | .extern _ | .noRoom => true
  | _ => false
structure Ctx.Good (K : Ctx) : Prop where
  rd : ∀ a s, K.own a.block → K.Ev ⟨.cell a, false, s⟩
  wr : ∀ a s, K.own a.block → ¬ K.still a.block a.off → K.Ev ⟨.cell a, true, s⟩
  noWr : ∀ b n s, K.still b n → ¬ K.Ev ⟨.cell ⟨b, n, none⟩, true, s⟩
  ext : ∀ m, markOk m = true → K.Ev ⟨.mark m, false, true⟩
  noRoom : K.Ev ⟨.mark .noRoom, false, true⟩
  lock : K.lock → ∀ m, K.Ev ⟨.mark m, false, true⟩
  obj : ∀ r wr s, K.own r → K.Ev ⟨.obj r, wr, s⟩
def ABlk.elem : ABlk → TypeId
  | .cells _ e => e
  | .row _ e _ => e
  | .lent _ e _ => e
  | .map _ => 0
  | .chan => 0
  | .vmap _ _ _ _ => 0
  | .pre _ _ _ _ _ _ e _ => e
def wrote (ρ : Env) (l : List Value) (ws : List (IE × AV)) : List Value := ws.foldr (fun p l => l.set (p.1.ev ρ).toNat (p.2.ev ρ)) l
structure PreIs (P : Program) (ρ : Env) (s : Nat) (n : IE) (fs ws : List (IE × AV)) (e : TypeId) (i : TypeInfo) (pre : Array Value) : Prop where
  val : ρ.v s = .agg pre
  info : P.info? e = some i
  size : pre.size = (n.ev ρ).toNat * i.size
  fs : ∀ p ∈ fs, pre[(p.1.ev ρ).toNat]? = some (p.2.ev ρ)
  ws : ∀ p ∈ ws, (p.1.ev ρ).toNat < pre.size
def ABlk.fits (P : Program) (ρ : Env) : ABlk → Array Value → Prop
  | .cells cs _, arr => arr.toList = AV.evs ρ cs
  | .lent cs _ _, arr => arr.toList = AV.evs ρ cs
  | .row cs e c, arr => ∃ rest i, arr.toList = AV.evs ρ cs ++ rest ∧ P.info? e = some i ∧ arr.size = (c.ev ρ).toNat * i.size
  | .map _, _ => False
  | .chan, _ => False
  | .vmap _ _ _ _, _ => False
  | .pre _ s n fs ws cs e c, arr => ∃ pre rest i, PreIs P ρ s n fs ws e i pre ∧ arr.toList = wrote ρ pre.toList ws ++ (AV.evs ρ cs ++ rest) ∧ arr.size = (c.ev ρ).toNat * i.size
def encE (E : List (Value × Value)) : Value := .agg (E.map fun p => Value.agg #[p.1, p.2]).toArray
def KeyIs (ρ : Env) (E : List (Value × Value)) (a : AA) (r : Option AV) : Prop :=
  (∀ q ∈ E, ∃ off, q.1 = .pointer (some ⟨(a.ev ρ).block, off, none⟩)) ∧ match r with
    | some v => ∃ E1 E2, E = E1 ++ (.pointer (some (a.ev ρ)), v.ev ρ) :: E2 ∧ ∀ q ∈ E1, q.1 ≠ .pointer (some (a.ev ρ))
    | none => ∀ q ∈ E, q.1 ≠ .pointer (some (a.ev ρ))
def ABlk.thing (ρ : Env) : ABlk → Obj → Prop
  | .map es, o => ∃ arr clk, o = .map arr clk ∧ arr.toList.map (fun e => (e.key, e.val)) = es.map fun p => (p.1.ev ρ, p.2.ev ρ)
  | .chan, o => ∃ k, o = .chan 0 #[] false k k false
  | .vmap s n fs ws, o => ∃ arr clk E, o = .map arr clk ∧ ρ.v s = encE E ∧ E.length = (n.ev ρ).toNat ∧ arr.toList.map (fun e => (e.key, e.val)) = E ++ ws.map (fun p => (p.1.ev ρ, p.2.ev ρ)) ∧ ∀ p ∈ fs, KeyIs ρ E p.1 p.2
  | _, _ => False
def ABlk.is (P : Program) (ρ : Env) (b : ABlk) (o : Obj) : Prop := (∃ arr, o = .cells arr b.elem (0, 0) ∧ b.fits P ρ arr) ∨ b.thing ρ o
def ABlk.lentAt (P : Program) (ρ : Env) : ABlk → Nat → Prop
  | .pre lk _ m _ _ _ e _, n => lk = true ∧ ∃ i, P.info? e = some i ∧ n < (m.ev ρ).toNat * i.size
  | b, n => b.isLent n = true
structure Rel (K : Ctx) (ρ : Env) (h : AH) (w : World) : Prop where
  blk : ∀ i b, findB i h.hp = some b → ∃ o, w.heap[ρ.b i]? = some o ∧ b.is K.P ρ o
  own' : ∀ i b, findB i h.hp = some b → K.own (ρ.b i) ∨ (b.isChan = true ∧ K.still (ρ.b i) 0)
  inj : ∀ i j b c, findB i h.hp = some b → findB j h.hp = some c → ρ.b i = ρ.b j → i = j
  bs : ∀ p ∈ K.O.bs, p.1.ev ρ = p.2
  is : ∀ p ∈ K.O.is, p.1.ev ρ = p.2.ev ρ
  mem : ∀ p ∈ K.O.mem, ¬ K.own (p.1.ev ρ).block ∧ w.cell? (p.1.ev ρ) = some (p.2.ev ρ) ∧ ∀ s, K.Ev ⟨.cell (p.1.ev ρ), false, s⟩
  room : ∀ n, w.heap.size ≤ n → K.own n
  lent : ∀ i b, findB i h.hp = some b → ∀ n, K.still (ρ.b i) n → b.lentAt K.P ρ n
  low : ∀ b n, K.still b n → b < w.heap.size
structure Ids (K : Ctx) (U : Nat → Prop) (h : AH) : Prop where
  hp : ∀ i b, findB i h.hp = some b → b.In U
  keys : ∀ i ∈ keys h.hp, U i
  nodup : (Go.Proofs.YtojifefdokekpaaDoor.SX.keys h.hp).Nodup
  fresh : ∀ n, h.nb ≤ n → n < h.lim → ¬ U n
  orc : K.O.In U
structure Keeps (own : Nat → Prop) (w w' : World) : Prop where
  heap : ∀ n, ¬ own n → w'.heap[n]? = w.heap[n]?
  size : w.heap.size ≤ w'.heap.size
  tape : w'.tape = w.tape
  os : w'.os = w.os
  output : w'.output = w.output
theorem Keeps.refl (own : Nat → Prop) (w : World) : Keeps own w w := ⟨fun _ _ => rfl, Nat.le_refl _, rfl, rfl, rfl⟩
theorem Keeps.trans {own : Nat → Prop} {w w' w'' : World} (h : Keeps own w w') (h' : Keeps own w' w'') : Keeps own w w'' :=
  ⟨fun n hn => (h'.heap n hn).trans (h.heap n hn), Nat.le_trans h.size h'.size, h'.tape.trans h.tape, h'.os.trans h.os, h'.output.trans h.output⟩
theorem heap_lt {w : World} {n : Nat} {o : Obj} (h : w.heap[n]? = some o) : n < w.heap.size := by
  rcases Nat.lt_or_ge n w.heap.size with h' | h'
  · exact h'
  · simp [Array.getElem?_eq_none h'] at h
theorem cell?_of {w : World} {b o : Nat} {arr : Array Value} {e : TypeId} {f : Nat × Nat} (h : w.heap[b]? = some (.cells arr e f)) : w.cell? ⟨b, o, none⟩ = arr[o]? := by
  simp [World.cell?, h]
theorem frozen?_of {w : World} {b o : Nat} {arr : Array Value} {e : TypeId} (h : w.heap[b]? = some (.cells arr e (0, 0))) : w.frozen? ⟨b, o, none⟩ = false := by
  simp [World.frozen?, h]
theorem evs_get (ρ : Env) (l : List AV) (n : Nat) : (AV.evs ρ l)[n]? = (l[n]?).map (AV.ev ρ) := by
  rw [evs_map]; simp
theorem evs_length (ρ : Env) (l : List AV) : (AV.evs ρ l).length = l.length := by rw [evs_map]; simp
theorem evs_append (ρ : Env) (l m : List AV) : AV.evs ρ (l ++ m) = AV.evs ρ l ++ AV.evs ρ m := by simp [evs_map]
theorem evs_set (ρ : Env) (l : List AV) (n : Nat) (v : AV) : AV.evs ρ (l.set n v) = (AV.evs ρ l).set n (v.ev ρ) := by simp [evs_map, List.map_set]
theorem fits_get {P : Program} {ρ : Env} {b : ABlk} {arr : Array Value} (h : b.fits P ρ arr) {n : Nat} {v : AV} (hn : b.cs[n]? = some v) : arr[n]? = some (v.ev ρ) := by
  have hlt : n < b.cs.length := (List.getElem?_eq_some_iff.1 hn).1
  cases b with
  | cells cs e =>
    simp only [ABlk.fits] at h
    rw [← Array.getElem?_toList, h, evs_get]
    simp only [ABlk.cs] at hn
    rw [hn]; rfl
  | lent cs e l =>
    simp only [ABlk.fits] at h
    rw [← Array.getElem?_toList, h, evs_get]
    simp only [ABlk.cs] at hn
    rw [hn]; rfl
  | row cs e c =>
    obtain ⟨rest, i, h1, h2, h3⟩ := h
    simp only [ABlk.cs] at hn hlt
    rw [← Array.getElem?_toList, h1, List.getElem?_append_left (by rw [evs_length]; exact hlt), evs_get, hn]; rfl
  | map es => exact h.elim
  | chan => exact h.elim
  | vmap s n fs ws => exact h.elim
  | pre lk s n fs ws cs e c => simp [ABlk.cs] at hlt
theorem fits_set {P : Program} {ρ : Env} {b : ABlk} {arr : Array Value} (h : b.fits P ρ arr) {n : Nat} {v : AV} (hn : n < b.cs.length) : (b.put (b.cs.set n v)).fits P ρ (arr.setIfInBounds n (v.ev ρ)) := by
  cases b with
  | cells cs e =>
    simp only [ABlk.fits, ABlk.put, ABlk.cs] at h ⊢
    rw [Array.toList_setIfInBounds, h, evs_set]
  | lent cs e l =>
    simp only [ABlk.fits, ABlk.put, ABlk.cs] at h ⊢
    rw [Array.toList_setIfInBounds, h, evs_set]
  | row cs e c =>
    obtain ⟨rest, i, h1, h2, h3⟩ := h
    simp only [ABlk.cs] at hn
    refine ⟨rest, i, ?_, h2, by simpa using h3⟩
    simp only [ABlk.cs]
    rw [Array.toList_setIfInBounds, h1, evs_set, List.set_append_left _ _ (by rw [evs_length]; exact hn)]
  | map es => exact h.elim
  | chan => exact h.elim
  | vmap s n fs ws => exact h.elim
  | pre lk s n fs ws cs e c => simp [ABlk.cs] at hn
theorem wrote_agree {U : Nat → Prop} {ρ ρ' : Env} (ha : Agree U ρ ρ') (l : List Value) : ∀ {ws : List (IE × AV)}, (∀ p ∈ ws, p.1.In U ∧ p.2.In U) → wrote ρ' l ws = wrote ρ l ws
  | [], _ => rfl
  | p :: ws, h => by
    have h1 := wrote_agree ha l (ws := ws) fun q hq => h q (List.mem_cons_of_mem _ hq)
    show (wrote ρ' l ws).set _ _ = (wrote ρ l ws).set _ _
    rw [h1, IE.ev_agree ha (h p (List.mem_cons_self ..)).1, AV.ev_agree ha _ (h p (List.mem_cons_self ..)).2]
theorem PreIs.agree {P : Program} {U : Nat → Prop} {ρ ρ' : Env} (ha : Agree U ρ ρ') {s : Nat} {n : IE} {fs ws : List (IE × AV)} {e : TypeId} {i : TypeInfo} {pre : Array Value} (hn : n.In U) (hf : ∀ p ∈ fs, p.1.In U ∧ p.2.In U) (hw : ∀ p ∈ ws, p.1.In U ∧ p.2.In U) (h : PreIs P ρ s n fs ws e i pre) : PreIs P ρ' s n fs ws e i pre :=
  ⟨by rw [ha.v]; exact h.val, h.info, by rw [IE.ev_agree ha hn]; exact h.size, fun p hp => by rw [IE.ev_agree ha (hf p hp).1, AV.ev_agree ha _ (hf p hp).2]; exact h.fs p hp, fun p hp => by rw [IE.ev_agree ha (hw p hp).1]; exact h.ws p hp⟩
theorem lentAt_lt {P : Program} {ρ : Env} {b : ABlk} {n m : Nat} (h : m < b.cs.length) (hl : b.lentAt P ρ n) : b.isLent n = true := by
  cases b <;> first | exact hl | (simp [ABlk.cs] at h)
theorem lentAt_put {P : Program} {ρ : Env} {b : ABlk} {m : Nat} (h : m < b.cs.length) (cs : List AV) (n : Nat) (P' : Program) (ρ' : Env) : (b.put cs).lentAt P' ρ' n ↔ b.lentAt P ρ n := by
  cases b <;> first | exact Iff.rfl | (simp [ABlk.cs] at h)
theorem lentAt_agree {P : Program} {U : Nat → Prop} {ρ ρ' : Env} (A : Agree U ρ ρ') {b : ABlk} (hb : b.In U) {n : Nat} : b.lentAt P ρ' n ↔ b.lentAt P ρ n := by
  cases b with
  | pre lk s m fs ws cs e c => simp only [ABlk.lentAt, IE.ev_agree A hb.1]
  | _ => exact Iff.rfl
theorem put_elem (b : ABlk) (cs : List AV) : (b.put cs).elem = b.elem := by cases b <;> rfl
theorem fits_agree {P : Program} {U : Nat → Prop} {ρ ρ' : Env} (ha : Agree U ρ ρ') {b : ABlk} (hb : b.In U) {arr : Array Value} (h : b.fits P ρ arr) : b.fits P ρ' arr := by
  cases b with
  | cells cs e => simp only [ABlk.fits] at h ⊢; rw [AV.evs_agree ha _ hb]; exact h
  | lent cs e l => simp only [ABlk.fits] at h ⊢; rw [AV.evs_agree ha _ hb]; exact h
  | row cs e c =>
    obtain ⟨rest, i, h1, h2, h3⟩ := h
    exact ⟨rest, i, by rw [AV.evs_agree ha _ hb.1]; exact h1, h2, by rw [IE.ev_agree ha hb.2]; exact h3⟩
  | map es => exact h.elim
  | chan => exact h.elim
  | vmap s n fs ws => exact h.elim
  | pre lk s n fs ws cs e c =>
    obtain ⟨pre, rest, i, h1, h2, h3⟩ := h
    obtain ⟨b1, b2, b3, b4, b5⟩ := hb
    exact ⟨pre, rest, i, h1.agree ha b1 b2 b3, by rw [wrote_agree ha _ b3, AV.evs_agree ha _ b4]; exact h2, by rw [IE.ev_agree ha b5]; exact h3⟩
theorem thing_agree {U : Nat → Prop} {ρ ρ' : Env} (ha : Agree U ρ ρ') {b : ABlk} (hb : b.In U) {o : Obj} (h : b.thing ρ o) : b.thing ρ' o := by
  cases b with
  | map es =>
    obtain ⟨arr, clk, h1, h2⟩ := h
    refine ⟨arr, clk, h1, h2.trans (List.map_congr_left fun p hp => ?_)⟩
    rw [AV.ev_agree ha _ (hb p hp).1, AV.ev_agree ha _ (hb p hp).2]
  | chan => exact h
  | vmap s n fs ws =>
    obtain ⟨arr, clk, E, h1, h2, h3, h4, h5⟩ := h
    obtain ⟨b1, b2, b3⟩ := hb
    refine ⟨arr, clk, E, h1, by rw [ha.v]; exact h2, by rw [IE.ev_agree ha b1]; exact h3, h4.trans ?_, fun p hp => ?_⟩
    · congr 1
      refine List.map_congr_left fun p hp => ?_
      rw [AV.ev_agree ha _ (b3 p hp).1, AV.ev_agree ha _ (b3 p hp).2]
    · obtain ⟨k1, k2⟩ := h5 p hp
      obtain ⟨c1, c2⟩ := b2 p hp
      unfold KeyIs
      rw [AA.ev_agree ha c1]
      refine ⟨k1, ?_⟩
      obtain ⟨a, r⟩ := p
      cases r with
      | none => exact k2
      | some v =>
        have c2' : v.In U := c2
        dsimp only at k2 ⊢
        rw [AV.ev_agree ha _ c2']
        exact k2
  | _ => exact h.elim
theorem is_agree {P : Program} {U : Nat → Prop} {ρ ρ' : Env} (ha : Agree U ρ ρ') {b : ABlk} (hb : b.In U) {o : Obj} (h : b.is P ρ o) : b.is P ρ' o :=
  h.elim (fun ⟨arr, h1, h2⟩ => .inl ⟨arr, h1, fits_agree ha hb h2⟩) fun h => .inr (thing_agree ha hb h)
theorem isMem_lt {b : ABlk} {n : Nat} (h : n < b.cs.length) : b.isMem = true := by
  cases b <;> first | rfl | (simp [ABlk.cs] at h)
theorem isMem_get {b : ABlk} {n : Nat} {v : AV} (h : b.cs[n]? = some v) : b.isMem = true := isMem_lt (List.getElem?_eq_some_iff.1 h).1
theorem is_mem {P : Program} {ρ : Env} {b : ABlk} {o : Obj} (h : b.is P ρ o) (hm : b.isMem = true) : ∃ arr, o = .cells arr b.elem (0, 0) ∧ b.fits P ρ arr := by
  rcases h with h | h
  · exact h
  · cases b with
    | map es => cases hm
    | chan => cases hm
    | vmap s n fs ws => cases hm
    | _ => exact h.elim
theorem Rel.arr {K : Ctx} {ρ : Env} {h : AH} {w : World} (R : Rel K ρ h w) {i : Nat} {b : ABlk} (hb : findB i h.hp = some b) (hm : b.isMem = true) : ∃ arr, w.heap[ρ.b i]? = some (.cells arr b.elem (0, 0)) ∧ b.fits K.P ρ arr := by
  obtain ⟨o, h1, h2⟩ := R.blk i b hb
  obtain ⟨arr, rfl, h3⟩ := is_mem h2 hm
  exact ⟨arr, h1, h3⟩
section
variable {K : Ctx} {ρ : Env} {h : AH} {w : World} {U : Nat → Prop}
theorem Rel.at (R : Rel K ρ h w) {w' : World} (hh : w'.heap = w.heap) : Rel K ρ h w' :=
  ⟨fun i b hb => by rw [hh]; exact R.blk i b hb, R.own', R.inj, R.bs, R.is, fun p hp => by have := R.mem p hp; rw [show w'.cell? (p.1.ev ρ) = w.cell? (p.1.ev ρ) from by simp [World.cell?, hh]]; exact this, by rw [hh]; exact R.room, R.lent, by rw [hh]; exact R.low⟩
theorem Rel.own {K : Ctx} {ρ : Env} {h : AH} {w : World} (R : Rel K ρ h w) (i : Nat) (b : ABlk) (hb : findB i h.hp = some b) (hc : b.isChan = false) : K.own (ρ.b i) :=
  (R.own' i b hb).elim id fun x => by rw [hc] at x; cases x.1
theorem notChan_lt {b : ABlk} {n : Nat} (h : n < b.cs.length) : b.isChan = false := by cases b <;> first | rfl | (simp [ABlk.cs] at h)
theorem notChan_get {b : ABlk} {n : Nat} {v : AV} (h : b.cs[n]? = some v) : b.isChan = false := notChan_lt (List.getElem?_eq_some_iff.1 h).1
theorem baseOf_both (ρ : Env) : ∀ (e : IE), (e.ev ρ).toNat = ((baseOf e).1.ev ρ).toNat + (baseOf e).2 ∧ ∀ c, e = .tn c → (c.ev ρ).toNat = ((baseOf c).1.ev ρ).toNat + (baseOf c).2 := by
  intro e
  induction e with
  | plus a b iha ihb =>
    refine ⟨?_, fun c h => by cases h⟩
    cases a with
    | tn c =>
      cases b with
      | lit n =>
        cases n with
        | ofNat j =>
          have ih := iha.2 c rfl
          simp only [baseOf, IE.ev]
          have : (((c.ev ρ).toNat : Int) + Int.ofNat j).toNat = (c.ev ρ).toNat + j := by simp; omega
          rw [this, ih]; omega
        | negSucc j => simp [baseOf]
      | _ => simp [baseOf]
    | _ => simp [baseOf]
  | lit n => exact ⟨by cases n <;> simp [baseOf, IE.ev], fun c h => by cases h⟩
  | tn a ih => exact ⟨by simp [baseOf], fun c h => by cases h; exact ih.1⟩
  | _ => exact ⟨by simp [baseOf], fun c h => by cases h⟩
theorem baseOf_ev (ρ : Env) (e : IE) : (e.ev ρ).toNat = ((baseOf e).1.ev ρ).toNat + (baseOf e).2 := (baseOf_both ρ e).1
theorem sameAt_ev {a b : IE} (h : sameAt a b = true) (ρ : Env) : (a.ev ρ).toNat = (b.ev ρ).toNat := by
  unfold sameAt at h
  rw [Bool.and_eq_true] at h
  rw [baseOf_ev ρ a, baseOf_ev ρ b, IE.eqb_eq h.1, Nat.eq_of_beq_eq_true h.2]
theorem apartAt_ev {a b : IE} (h : apartAt a b = true) (ρ : Env) : (a.ev ρ).toNat ≠ (b.ev ρ).toNat := by
  unfold apartAt at h
  rw [Bool.and_eq_true] at h
  rw [baseOf_ev ρ a, baseOf_ev ρ b, IE.eqb_eq h.1]
  have h2 := h.2
  intro e
  have : (baseOf a).2 = (baseOf b).2 := by omega
  rw [this] at h2
  simp at h2
theorem wrote_length (ρ : Env) (l : List Value) : ∀ (ws : List (IE × AV)), (wrote ρ l ws).length = l.length
  | [] => rfl
  | p :: ws => by show ((wrote ρ l ws).set _ _).length = _; rw [List.length_set, wrote_length ρ l ws]
theorem getF_ok {P : Program} {ρ : Env} {s : Nat} {n : IE} {fs0 ws : List (IE × AV)} {e : TypeId} {i : TypeInfo} {pre : Array Value} (h : PreIs P ρ s n fs0 ws e i pre) {a : IE} {v : AV} : ∀ {fs : List (IE × AV)}, (∀ p ∈ fs, p ∈ fs0) → getF a fs = some v → pre.toList[(a.ev ρ).toNat]? = some (v.ev ρ)
  | [], _, hv => by cases hv
  | p :: fs, hs, hv => by
    unfold getF at hv
    split at hv
    · rename_i hsame
      cases hv
      rw [sameAt_ev hsame ρ]
      simpa using h.fs p (hs p (List.mem_cons_self ..))
    · exact getF_ok h (fun q hq => hs q (List.mem_cons_of_mem _ hq)) hv
theorem getW_ok {P : Program} {ρ : Env} {s : Nat} {n : IE} {fs ws0 : List (IE × AV)} {e : TypeId} {i : TypeInfo} {pre : Array Value} (h : PreIs P ρ s n fs ws0 e i pre) {a : IE} {v : AV} : ∀ {ws : List (IE × AV)}, (∀ p ∈ ws, p ∈ ws0) → getW a fs ws = some v → (wrote ρ pre.toList ws)[(a.ev ρ).toNat]? = some (v.ev ρ)
  | [], _, hv => getF_ok h (fun _ hp => hp) hv
  | p :: ws, hs, hv => by
    unfold getW at hv
    show ((wrote ρ pre.toList ws).set _ _)[_]? = _
    split at hv
    · rename_i hsame
      cases hv
      rw [sameAt_ev hsame ρ, List.getElem?_set_self (by rw [wrote_length]; simpa using h.ws p (hs p (List.mem_cons_self ..)))]
    · split at hv
      · rename_i hap
        rw [List.getElem?_set_ne (fun e => apartAt_ev hap ρ e.symm)]
        exact getW_ok h (fun q hq => hs q (List.mem_cons_of_mem _ hq)) hv
      · cases hv
theorem getP_ok {P : Program} {ρ : Env} {b : ABlk} {arr : Array Value} (h : b.fits P ρ arr) {a : IE} {v : AV} (hv : b.getP a = some v) : arr[(a.ev ρ).toNat]? = some (v.ev ρ) := by
  cases b with
  | pre lk s n fs ws cs e c =>
    obtain ⟨pre, rest, i, h1, h2, h3⟩ := h
    have h4 := getW_ok h1 (fun _ hp => hp) hv
    rw [← Array.getElem?_toList, h2, List.getElem?_append_left (List.getElem?_eq_some_iff.1 h4).1]
    exact h4
  | _ => cases hv
theorem getP_mem {b : ABlk} {a : IE} {v : AV} (hv : b.getP a = some v) : b.isMem = true ∧ b.isChan = false := by
  cases b <;> first | exact ⟨rfl, rfl⟩ | cases hv
theorem getF_in {U : Nat → Prop} {a : IE} {v : AV} : ∀ {fs : List (IE × AV)}, (∀ p ∈ fs, p.1.In U ∧ p.2.In U) → getF a fs = some v → v.In U
  | [], _, hv => by cases hv
  | p :: fs, hs, hv => by
    unfold getF at hv
    split at hv
    · cases hv; exact (hs p (List.mem_cons_self ..)).2
    · exact getF_in (fun q hq => hs q (List.mem_cons_of_mem _ hq)) hv
theorem getW_in {U : Nat → Prop} {a : IE} {v : AV} {fs : List (IE × AV)} (hf : ∀ p ∈ fs, p.1.In U ∧ p.2.In U) : ∀ {ws : List (IE × AV)}, (∀ p ∈ ws, p.1.In U ∧ p.2.In U) → getW a fs ws = some v → v.In U
  | [], _, hv => getF_in hf hv
  | p :: ws, hs, hv => by
    unfold getW at hv
    split at hv
    · cases hv; exact (hs p (List.mem_cons_self ..)).2
    · split at hv
      · exact getW_in hf (fun q hq => hs q (List.mem_cons_of_mem _ hq)) hv
      · cases hv
theorem getP_in {U : Nat → Prop} {b : ABlk} (hb : b.In U) {a : IE} {v : AV} (hv : b.getP a = some v) : v.In U := by
  cases b with
  | pre lk s n fs ws cs e c => exact getW_in hb.2.1 hb.2.2.1 hv
  | _ => cases hv
theorem setP_ok {P : Program} {ρ : Env} {b b' : ABlk} {arr : Array Value} (h : b.fits P ρ arr) {a : IE} {v : AV} (hv : b.setP a v = some b') : b'.fits P ρ (arr.setIfInBounds (a.ev ρ).toNat (v.ev ρ)) ∧ b'.elem = b.elem ∧ b'.isChan = false ∧ b.isMem = true ∧ (∀ m, ¬ b.lentAt P ρ m) ∧ ∃ u, b.getP a = some u := by
  cases b with
  | pre lk s n fs ws cs e c =>
    unfold ABlk.setP at hv
    dsimp only at hv
    split at hv
    · rename_i u hu
      cases hv
      obtain ⟨pre, rest, i, h1, h2, h3⟩ := h
      have h4 := getW_ok h1 (fun _ hp => hp) hu
      have hlt := (List.getElem?_eq_some_iff.1 h4).1
      refine ⟨⟨pre, rest, i, ⟨h1.val, h1.info, h1.size, h1.fs, fun p hp => ?_⟩, ?_, by simpa using h3⟩, rfl, rfl, rfl, fun m hm => by (cases hm.1), u, hu⟩
      · rcases List.mem_cons.1 hp with rfl | hp
        · rw [wrote_length] at hlt; simpa using hlt
        · exact h1.ws p hp
      · rw [Array.toList_setIfInBounds, h2, List.set_append_left _ _ hlt]
        rfl
    · cases hv
  | _ => cases hv
theorem setP_in {U : Nat → Prop} {b b' : ABlk} (hb : b.In U) {a : IE} {v : AV} (ha : a.In U) (hi : v.In U) (hv : b.setP a v = some b') : b'.In U := by
  cases b with
  | pre lk s n fs ws cs e c =>
    unfold ABlk.setP at hv
    dsimp only at hv
    split at hv
    · cases hv
      exact ⟨hb.1, hb.2.1, fun p hp => (List.mem_cons.1 hp).elim (fun e => e ▸ ⟨ha, hi⟩) (hb.2.2.1 p), hb.2.2.2⟩
    · cases hv
  | _ => cases hv
theorem load0_sound (R : Rel K ρ h w) (G : K.Good) {a : AA} {v : AV} (hl : load0 K.O h a = .ok v) : w.cell? (a.ev ρ) = some (v.ev ρ) ∧ ∀ s, K.Ev ⟨.cell (a.ev ρ), false, s⟩ := by
  have old : ∀ {v : AV}, (match look AA.eqb a K.O.mem with | some v => (Except.ok v : M AV) | none => .error "load an unknown cell") = .ok v → w.cell? (a.ev ρ) = some (v.ev ρ) ∧ ∀ s, K.Ev ⟨.cell (a.ev ρ), false, s⟩ := by
    intro v hv
    split at hv
    · rename_i u hu
      cases hv
      obtain ⟨x, hx, he⟩ := look_some hu
      obtain rfl := AA.eqb_eq he
      exact ⟨(R.mem _ hx).2.1, (R.mem _ hx).2.2⟩
    · cases hv
  obtain ⟨blk, off⟩ := a
  unfold load0 at hl
  dsimp only at hl
  split at hl
  · rename_i i n
    split at hl
    · rename_i b hb
      split at hl
      · rename_i u hu
        cases hl
        obtain ⟨arr, ha, hf⟩ := R.arr hb (isMem_get hu)
        refine ⟨?_, fun s => G.rd _ _ (R.own _ _ hb (notChan_get hu))⟩
        rw [show AA.ev ρ ⟨.dyn i, .lit (.ofNat n)⟩ = ⟨ρ.b i, n, none⟩ from rfl, cell?_of ha]
        exact fits_get hf hu
      · cases hl
    · exact old hl
  · exact old hl
theorem load0_in (I : Ids K U h) {a : AA} {v : AV} (hl : load0 K.O h a = .ok v) : v.In U := by
  have old : ∀ {v : AV}, (match look AA.eqb a K.O.mem with | some v => (Except.ok v : M AV) | none => .error "load an unknown cell") = .ok v → v.In U := by
    intro v hv
    split at hv
    · rename_i u hu
      cases hv
      obtain ⟨x, hx, he⟩ := look_some hu
      exact (I.orc.mem _ hx).2
    · cases hv
  unfold load0 at hl
  dsimp only at hl
  split at hl
  · split at hl
    · rename_i b hb
      split at hl
      · rename_i u hu
        cases hl
        have := I.hp _ _ hb
        have hm := List.mem_of_getElem? hu
        cases b with
        | cells cs e => exact Ins_iff.1 this _ hm
        | lent cs e l => exact Ins_iff.1 this _ hm
        | row cs e c => exact Ins_iff.1 this.1 _ hm
        | map es => cases hm
        | chan => cases hm
        | vmap s n fs ws => cases hm
        | pre lk s n fs ws cs e c => cases hm
      · cases hl
    · exact old hl
  · exact old hl
theorem load1_sound (R : Rel K ρ h w) (G : K.Good) {a : AA} {v : AV} (hl : load1 K.O h a = .ok v) : w.cell? (a.ev ρ) = some (v.ev ρ) ∧ ∀ s, K.Ev ⟨.cell (a.ev ρ), false, s⟩ := by
  unfold load1 at hl
  split at hl
  · rename_i u hu
    cases hl
    exact load0_sound R G hu
  · split at hl
    · rename_i u hu
      cases hl
      obtain ⟨blk, off⟩ := a
      unfold preAt? at hu
      dsimp only at hu
      split at hu
      · rename_i i _
        split at hu
        · rename_i b hb
          obtain ⟨m1, m2⟩ := getP_mem hu
          obtain ⟨arr, ha, hf⟩ := R.arr hb m1
          refine ⟨?_, fun s => G.rd _ _ (R.own _ _ hb m2)⟩
          rw [show AA.ev ρ ⟨.dyn i, off⟩ = ⟨ρ.b i, (off.ev ρ).toNat, none⟩ from rfl, cell?_of ha]
          exact getP_ok hf hu
        · cases hu
      · cases hu
    · cases hl
theorem load1_in (I : Ids K U h) {a : AA} {v : AV} (hl : load1 K.O h a = .ok v) : v.In U := by
  unfold load1 at hl
  split at hl
  · rename_i u hu
    cases hl
    exact load0_in I hu
  · split at hl
    · rename_i u hu
      cases hl
      unfold preAt? at hu
      split at hu
      · split at hu
        · rename_i b hb
          exact getP_in (I.hp _ _ hb) hu
        · cases hu
      · cases hu
    · cases hl
theorem addN_ev (ρ : Env) (a : IE) (n : Nat) : ((addN a n).ev ρ).toNat = (a.ev ρ).toNat + n := by
  unfold addN
  split
  · simp [IE.ev]; omega
  · split
    · rename_i h; subst h; simp
    · simp only [IE.ev]; simp; omega
theorem addN_in {a : IE} (n : Nat) (hi : a.In U) : (addN a n).In U := by
  unfold addN
  split
  · trivial
  · split
    · exact hi
    · exact ⟨hi, trivial⟩
theorem AA.add_ev (ρ : Env) (a : AA) (n : Nat) : (a.add n).ev ρ = (a.ev ρ).add n := by
  simp only [AA.ev, AA.add, Addr.add, addN_ev]
  split
  · rename_i h; subst h; simp
  · rfl
theorem AA.add_in {a : AA} (n : Nat) (hi : a.In U) : (a.add n).In U := ⟨hi.1, addN_in n hi.2⟩
theorem loadN_sound (R : Rel K ρ h w) (G : K.Good) {E : Value → World → Prop} {a : AA} : ∀ {n j : Nat} {l : List AV} {acc : Array Value}, loadN K.O h a n j = .ok l →
    ∀ {Q : Array Value → World → Prop}, Q (acc ++ (AV.evs ρ l).toArray) w → wq K.P K.Ev E (loadCellsFrom (a.ev ρ) j n acc) Q w := by
  intro n
  induction n with
  | zero => intro j l acc hl Q hq; simp [loadN] at hl; subst hl; simpa [loadCellsFrom, AV.evs] using hq
  | succ n ih =>
    intro j l acc hl Q hq
    simp only [loadN] at hl
    split at hl
    · rename_i v hv
      split at hl
      · rename_i l' hl'
        cases hl
        obtain ⟨hc, he⟩ := load1_sound R G hv
        rw [AA.add_ev] at hc he
        simp only [loadCellsFrom, wq_bind]
        rw [wq_load]
        refine ⟨_, hc, he _, ih hl' ?_⟩
        simpa [AV.evs] using hq
      · cases hl
    · cases hl
theorem loadN_in (I : Ids K U h) {a : AA} : ∀ {n j : Nat} {l : List AV}, loadN K.O h a n j = .ok l → AV.Ins U l := by
  intro n
  induction n with
  | zero => intro j l hl; simp [loadN] at hl; subst hl; trivial
  | succ n ih =>
    intro j l hl
    simp only [loadN] at hl
    split at hl
    · rename_i v hv
      split at hl
      · rename_i l' hl'
        cases hl
        exact ⟨load1_in I hv, ih hl'⟩
      · cases hl
    · cases hl
theorem loadN_length {O : Orc} {a : AA} : ∀ {n j : Nat} {l : List AV}, loadN O h a n j = .ok l → l.length = n := by
  intro n
  induction n with
  | zero => intro j l hl; simp [loadN] at hl; subst hl; rfl
  | succ n ih =>
    intro j l hl
    simp only [loadN] at hl
    split at hl
    · split at hl
      · rename_i l' hl'
        cases hl
        simp [ih hl']
      · cases hl
    · cases hl
theorem heap_setCell (w : World) (a : Addr) (v : Value) (n : Nat) : (w.setCell a v).heap[n]? = if n = a.block then (w.heap[n]?).map (fun
      | .cells c elem frozen => .cells (if a.spot.isSome then c else c.setIfInBounds a.off v) elem frozen
      | o => o) else w.heap[n]? := by
  simp only [World.setCell, Array.getElem?_modify]
  by_cases e : a.block = n
  · subst e; rw [if_pos rfl, if_pos rfl]; rfl
  · rw [if_neg e, if_neg (fun x => e x.symm)]
theorem size_setCell (w : World) (a : Addr) (v : Value) : (w.setCell a v).heap.size = w.heap.size := by simp [World.setCell]
theorem oneCell_ev {v : AV} (ho : v.oneCell? = true) (ρ : Env) : (v.ev ρ).oneCell' = true := by
  cases v <;> simp_all [AV.oneCell?, AV.ev, Value.oneCell']
theorem store0_sound (R : Rel K ρ h w) (G : K.Good) {a : AA} {v : AV} {h' : AH} (hs : store0 h a v = .ok h') :
    (v.ev ρ).oneCell' = true ∧ (∃ u, w.cell? (a.ev ρ) = some u) ∧ w.frozen? (a.ev ρ) = false ∧ (∀ s, K.Ev ⟨.cell (a.ev ρ), true, s⟩) ∧ Rel K ρ h' (w.setCell (a.ev ρ) (v.ev ρ)) ∧ Keeps K.own w (w.setCell (a.ev ρ) (v.ev ρ)) ∧ h'.nb = h.nb ∧ h'.lim = h.lim := by
  obtain ⟨blk, off⟩ := a
  unfold store0 at hs
  dsimp only at hs
  split at hs
  · rename_i i n
    split at hs
    · rename_i b hb
      split at hs
      · rename_i hc
        cases hs
        simp only [Bool.and_eq_true, decide_eq_true_eq, Bool.not_eq_true'] at hc
        obtain ⟨⟨hlt, ho⟩, hnl⟩ := hc
        have hns : ¬ K.still (ρ.b i) n := fun x => by
          have := lentAt_lt hlt (R.lent _ _ hb n x)
          rw [this] at hnl; cases hnl
        obtain ⟨arr, ha, hf⟩ := R.arr hb (isMem_lt hlt)
        have hown := R.own _ _ hb (notChan_lt hlt)
        have hev : AA.ev ρ ⟨.dyn i, .lit (.ofNat n)⟩ = ⟨ρ.b i, n, none⟩ := rfl
        rw [hev]
        obtain ⟨u, hu⟩ : ∃ u, b.cs[n]? = some u := ⟨_, List.getElem?_eq_getElem hlt⟩
        refine ⟨oneCell_ev ho ρ, ⟨_, (cell?_of ha).trans (fits_get hf hu)⟩, frozen?_of ha, fun s => G.wr _ _ hown hns, ?_, ?_, rfl, rfl⟩
        · refine ⟨fun j c hj => ?_, fun j c hj => ?_, fun j k c d hj hk e => ?_, R.bs, R.is, fun p hp => ?_, fun m hm => R.room m (by rw [size_setCell] at hm; exact hm), fun j c hj m hm => ?_, fun b m hm => by rw [size_setCell]; exact R.low b m hm⟩
          · rw [findB_setB] at hj
            split at hj
            · rename_i e; subst e
              rw [hb] at hj; cases hj
              refine ⟨.cells (arr.setIfInBounds n (v.ev ρ)) b.elem (0, 0), ?_, .inl ⟨_, by rw [put_elem], fits_set hf hlt⟩⟩
              rw [heap_setCell, if_pos rfl, ha]; rfl
            · rename_i e
              obtain ⟨arr', ha', hf'⟩ := R.blk _ _ hj
              refine ⟨arr', ?_, hf'⟩
              rw [heap_setCell, if_neg (fun x => e (R.inj _ _ _ _ hj hb x)), ha']
          · rw [findB_setB] at hj
            split at hj
            · rename_i e; subst e; exact .inl hown
            · exact R.own' _ _ hj
          · rw [findB_setB] at hj hk
            split at hj <;> split at hk
            · rename_i e1 e2; exact e1.trans e2.symm
            · rename_i e1 e2; subst e1; exact R.inj _ _ _ _ hb hk e
            · rename_i e1 e2; subst e2; exact R.inj _ _ _ _ hj hb e
            · exact R.inj _ _ _ _ hj hk e
          · obtain ⟨m1, m2, m3⟩ := R.mem p hp
            refine ⟨m1, ?_, m3⟩
            have hne : (p.1.ev ρ).block ≠ ρ.b i := fun x => m1 (x ▸ hown)
            simp only [World.cell?] at m2 ⊢
            rw [heap_setCell, if_neg hne]; exact m2
          · rw [findB_setB] at hj
            split at hj
            · rename_i e; subst e
              rw [hb] at hj; cases hj
              exact (lentAt_put hlt _ _ _ _).2 (R.lent _ _ hb m hm)
            · exact R.lent _ _ hj m hm
        · refine ⟨fun m hm => ?_, by rw [size_setCell]; exact Nat.le_refl _, rfl, rfl, rfl⟩
          rw [heap_setCell, if_neg (fun x => hm (by rw [x]; exact hown))]
      · cases hs
    · cases hs
  · cases hs
theorem store0_ids (I : Ids K U h) {a : AA} {v : AV} {h' : AH} (hs : store0 h a v = .ok h') (hv : v.In U) : Ids K U h' := by
  obtain ⟨blk, off⟩ := a
  unfold store0 at hs
  dsimp only at hs
  split at hs
  · split at hs
    · rename_i b hb
      split at hs
      · cases hs
        refine ⟨fun j c hj => ?_, fun j hj => I.keys j (by rw [keys_setB] at hj; exact hj), by rw [keys_setB]; exact I.nodup, I.fresh, I.orc⟩
        rw [findB_setB] at hj
        split at hj
        · rw [hb] at hj; cases hj
          have hbi := I.hp _ _ hb
          have hset : ∀ (l : List AV) (n : Nat), AV.Ins U l → AV.Ins U (l.set n v) := fun l n hl => Ins_iff.2 fun a ha => by
            rcases List.mem_or_eq_of_mem_set ha with h' | rfl
            · exact Ins_iff.1 hl _ h'
            · exact hv
          cases b with
          | cells cs e => exact hset _ _ hbi
          | lent cs e l => exact hset _ _ hbi
          | row cs e c => exact ⟨hset _ _ hbi.1, hbi.2⟩
          | map es => exact hbi
          | chan => exact hbi
          | vmap s n fs ws => exact hbi
          | pre lk s n fs ws cs e c => exact hbi
        · exact I.hp _ _ hj
      · cases hs
    · cases hs
  · cases hs
theorem preSet_sound (R : Rel K ρ h w) (G : K.Good) {a : AA} {v : AV} {h' : AH} (hs : preSet? h a v = some h') :
    (v.ev ρ).oneCell' = true ∧ (∃ u, w.cell? (a.ev ρ) = some u) ∧ w.frozen? (a.ev ρ) = false ∧ (∀ s, K.Ev ⟨.cell (a.ev ρ), true, s⟩) ∧ Rel K ρ h' (w.setCell (a.ev ρ) (v.ev ρ)) ∧ Keeps K.own w (w.setCell (a.ev ρ) (v.ev ρ)) ∧ h'.nb = h.nb ∧ h'.lim = h.lim := by
  obtain ⟨blk, off⟩ := a
  unfold preSet? at hs
  dsimp only at hs
  split at hs
  · rename_i i
    split at hs
    · rename_i b hb
      split at hs
      · rename_i b' hb'
        split at hs
        · rename_i ho
          cases hs
          have hmem : b.isMem = true := by cases b <;> first | rfl | cases hb'
          obtain ⟨arr, ha, hf⟩ := R.arr hb hmem
          obtain ⟨f1, f2, f3, f4, f5, u, hu⟩ := setP_ok hf hb'
          have hown := R.own _ _ hb (getP_mem hu).2
          have hns : ¬ K.still (ρ.b i) (off.ev ρ).toNat := fun x => by
            exact f5 _ (R.lent _ _ hb _ x)
          have hev : AA.ev ρ ⟨.dyn i, off⟩ = ⟨ρ.b i, (off.ev ρ).toNat, none⟩ := rfl
          rw [hev]
          have hcell := getP_ok hf hu
          generalize (off.ev ρ).toNat = n at *
          refine ⟨oneCell_ev ho ρ, ⟨_, (cell?_of ha).trans hcell⟩, frozen?_of ha, fun s => G.wr _ _ hown hns, ?_, ?_, rfl, rfl⟩
          · refine ⟨fun j c hj => ?_, fun j c hj => ?_, fun j k c d hj hk e => ?_, R.bs, R.is, fun p hp => ?_, fun m hm => R.room m (by rw [size_setCell] at hm; exact hm), fun j c hj m hm => ?_, fun b m hm => by rw [size_setCell]; exact R.low b m hm⟩
            · rw [findB_setB] at hj
              split at hj
              · rename_i e; subst e
                rw [hb] at hj; cases hj
                refine ⟨.cells (arr.setIfInBounds n (v.ev ρ)) b'.elem (0, 0), ?_, .inl ⟨_, rfl, f1⟩⟩
                rw [heap_setCell, if_pos rfl, ha, f2]; rfl
              · rename_i e
                obtain ⟨arr', ha', hf'⟩ := R.blk _ _ hj
                refine ⟨arr', ?_, hf'⟩
                rw [heap_setCell, if_neg (fun x => e (R.inj _ _ _ _ hj hb x)), ha']
            · rw [findB_setB] at hj
              split at hj
              · rename_i e; subst e; exact .inl hown
              · exact R.own' _ _ hj
            · rw [findB_setB] at hj hk
              split at hj <;> split at hk
              · rename_i e1 e2; exact e1.trans e2.symm
              · rename_i e1 e2; subst e1; exact R.inj _ _ _ _ hb hk e
              · rename_i e1 e2; subst e2; exact R.inj _ _ _ _ hj hb e
              · exact R.inj _ _ _ _ hj hk e
            · obtain ⟨m1, m2, m3⟩ := R.mem p hp
              refine ⟨m1, ?_, m3⟩
              have hne : (p.1.ev ρ).block ≠ ρ.b i := fun x => m1 (x ▸ hown)
              simp only [World.cell?] at m2 ⊢
              rw [heap_setCell, if_neg hne]; exact m2
            · rw [findB_setB] at hj
              split at hj
              · rename_i e; subst e
                rw [hb] at hj; cases hj
                exact absurd (R.lent _ _ hb m hm) (f5 m)
              · exact R.lent _ _ hj m hm
          · refine ⟨fun m hm => ?_, by rw [size_setCell]; exact Nat.le_refl _, rfl, rfl, rfl⟩
            rw [heap_setCell, if_neg (fun x => hm (by rw [x]; exact hown))]
        · cases hs
      · cases hs
    · cases hs
  · cases hs
theorem store1_sound (R : Rel K ρ h w) (G : K.Good) {a : AA} {v : AV} {h' : AH} (hs : store1 h a v = .ok h') :
    (v.ev ρ).oneCell' = true ∧ (∃ u, w.cell? (a.ev ρ) = some u) ∧ w.frozen? (a.ev ρ) = false ∧ (∀ s, K.Ev ⟨.cell (a.ev ρ), true, s⟩) ∧ Rel K ρ h' (w.setCell (a.ev ρ) (v.ev ρ)) ∧ Keeps K.own w (w.setCell (a.ev ρ) (v.ev ρ)) ∧ h'.nb = h.nb ∧ h'.lim = h.lim := by
  unfold store1 at hs
  split at hs
  · rename_i h1 hh
    cases hs
    exact store0_sound R G hh
  · split at hs
    · rename_i h1 hh
      cases hs
      exact preSet_sound R G hh
    · cases hs
theorem store1_ids (I : Ids K U h) {a : AA} {v : AV} {h' : AH} (hs : store1 h a v = .ok h') (ha : a.In U) (hv : v.In U) : Ids K U h' := by
  unfold store1 at hs
  split at hs
  · rename_i h1 hh
    cases hs
    exact store0_ids I hh hv
  · split at hs
    · rename_i h1 hh
      cases hs
      unfold preSet? at hh
      split at hh
      · rename_i i hi
        split at hh
        · rename_i b hb
          split at hh
          · rename_i b' hb'
            split at hh
            · cases hh
              refine ⟨fun j c hj => ?_, fun j hj => I.keys j (by rw [keys_setB] at hj; exact hj), by rw [keys_setB]; exact I.nodup, I.fresh, I.orc⟩
              rw [findB_setB] at hj
              split at hj
              · rw [hb] at hj; cases hj
                exact setP_in (I.hp _ _ hb) ha.2 hv hb'
              · exact I.hp _ _ hj
            · cases hh
          · cases hh
        · cases hh
      · cases hh
    · cases hs
theorem storeN_sound (G : K.Good) {E : Value → World → Prop} {a : AA} : ∀ {l : List AV} {j : Nat} {h h' : AH} {w : World}, Rel K ρ h w → storeN h a l j = .ok h' →
    ∀ {Q : Unit → World → Prop}, (∀ w', Rel K ρ h' w' → Keeps K.own w w' → h'.nb = h.nb → h'.lim = h.lim → Q () w') → wq K.P K.Ev E (storeCells (a.ev ρ) (AV.evs ρ l) j) Q w := by
  intro l
  induction l with
  | nil => intro j h h' w R hs Q hq; simp [storeN] at hs; subst hs; exact hq w R (Keeps.refl _ _) rfl rfl
  | cons v l ih =>
    intro j h h' w R hs Q hq
    simp only [storeN] at hs
    split at hs
    · rename_i h1 hh1
      obtain ⟨s1, s2, s3, s4, s5, s6, s7, s8⟩ := store1_sound R G hh1
      rw [AA.add_ev] at s2 s3 s4 s5 s6
      simp only [AV.evs, storeCells, wq_bind]
      rw [wq_store]
      exact ⟨s1, s2, s3, s4 _, ih s5 hs fun w' r1 r2 r3 r4 => hq w' r1 (s6.trans r2) (r3.trans s7) (r4.trans s8)⟩
    · cases hs
theorem storeN_ids {a : AA} (ha : a.In U) : ∀ {l : List AV} {j : Nat} {h h' : AH}, Ids K U h → storeN h a l j = .ok h' → AV.Ins U l → Ids K U h' := by
  intro l
  induction l with
  | nil => intro j h h' I hs _; simp [storeN] at hs; subst hs; exact I
  | cons v l ih =>
    intro j h h' I hs hv
    simp only [storeN] at hs
    split at hs
    · rename_i h1 hh1
      exact ih (store1_ids I hh1 (AA.add_in j ha) hv.1) hs hv.2
    · cases hs
end
end Go.Proofs.YtojifefdokekpaaDoor.SX
set_option linter.unusedSectionVars false
namespace Go.Proofs.YtojifefdokekpaaDoor.SX
def Env.upd (ρ : Env) (n m : Nat) (c : Int) : Env := { ρ with b := fun x => if x = n then m else ρ.b x, i := fun x => if x = n then c else ρ.i x }
def plus (U : Nat → Prop) (a b : Nat) : Nat → Prop := fun n => U n ∨ (a ≤ n ∧ n < b)
theorem plus_sub {U : Nat → Prop} {a b : Nat} : ∀ n, U n → plus U a b n := fun _ h => .inl h
theorem agree_upd {U : Nat → Prop} {ρ : Env} {n m : Nat} {c : Int} (h : ¬ U n) : Agree U ρ (ρ.upd n m c) :=
  ⟨rfl, rfl, rfl, fun x hx => by
    have : x ≠ n := fun e => h (e ▸ hx)
    simp [Env.upd, this], fun x hx => by
    have : x ≠ n := fun e => h (e ▸ hx)
    simp [Env.upd, this], rfl⟩
section
variable {K : Ctx} {ρ : Env} {h : AH} {w : World} {U : Nat → Prop}
theorem Rel.agree (R : Rel K ρ h w) (I : Ids K U h) {ρ' : Env} (A : Agree U ρ ρ') : Rel K ρ' h w := by
  have hk : ∀ i b, findB i h.hp = some b → ρ'.b i = ρ.b i := fun i b hb => A.b i (I.keys i (findB_key hb))
  refine ⟨fun i b hb => ?_, fun i b hb => by rw [hk i b hb]; exact R.own' i b hb, fun i j b c hb hc e => R.inj i j b c hb hc (by rw [hk i b hb, hk j c hc] at e; exact e), fun p hp => ?_, fun p hp => ?_, fun p hp => ?_, R.room, fun i b hb n hs => (lentAt_agree A (I.hp i b hb)).2 (R.lent i b hb n (by rw [hk i b hb] at hs; exact hs)), R.low⟩
  · obtain ⟨arr, ha, hf⟩ := R.blk i b hb
    exact ⟨arr, by rw [hk i b hb]; exact ha, is_agree A (I.hp i b hb) hf⟩
  · rw [BE.ev_agree A (I.orc.bs p hp)]; exact R.bs p hp
  · rw [IE.ev_agree A (I.orc.is p hp).1, IE.ev_agree A (I.orc.is p hp).2]; exact R.is p hp
  · rw [AA.ev_agree A (I.orc.mem p hp).1, AV.ev_agree A _ (I.orc.mem p hp).2]; exact R.mem p hp
theorem Rel.insL (R : Rel K ρ h w) (I : Ids K U h) (hlt : h.nb < h.lim) {m : Nat} {c : Int} {b : ABlk} {o : Obj} (hm : w.heap[m]? = some o) (hown : K.own m)
    (hne : ∀ j x, findB j h.hp = some x → ρ.b j ≠ m) (hst : ∀ n, K.still m n → b.lentAt K.P (ρ.upd h.nb m c) n) (hf : b.is K.P (ρ.upd h.nb m c) o) : Rel K (ρ.upd h.nb m c) ⟨insB h.nb b h.hp, h.nb + 1, h.lim⟩ w := by
  have hnu : ¬ U h.nb := I.fresh _ (Nat.le_refl _) hlt
  have hnk : h.nb ∉ Go.Proofs.YtojifefdokekpaaDoor.SX.keys h.hp := fun hk => hnu (I.keys _ hk)
  have R' := R.agree I (agree_upd (m := m) (c := c) hnu)
  have hb0 : (ρ.upd h.nb m c).b h.nb = m := by simp [Env.upd]
  have hbj : ∀ j x, findB j h.hp = some x → (ρ.upd h.nb m c).b j = ρ.b j := fun j x hx => (agree_upd (m := m) (c := c) hnu).b j (I.keys j (findB_key hx))
  refine ⟨fun i x hx => ?_, fun i x hx => ?_, fun i j x y hx hy e => ?_, R'.bs, R'.is, R'.mem, R'.room, fun i x hx n hs => ?_, R'.low⟩
  · rw [findB_insB _ _ _ _ hnk] at hx
    split at hx
    · rename_i e; subst e; cases hx; rw [hb0]; exact ⟨o, hm, hf⟩
    · exact R'.blk i x hx
  · rw [findB_insB _ _ _ _ hnk] at hx
    split at hx
    · rename_i e; subst e; cases hx; rw [hb0]; exact .inl hown
    · exact R'.own' i x hx
  · rw [findB_insB _ _ _ _ hnk] at hx hy
    split at hx <;> split at hy
    · rename_i e1 e2; exact e1.trans e2.symm
    · rename_i e1 e2; subst e1; rw [hb0, hbj j y hy] at e; exact absurd e.symm (hne j y hy)
    · rename_i e1 e2; subst e2; rw [hb0, hbj i x hx] at e; exact absurd e (hne i x hx)
    · exact R'.inj i j x y hx hy e
  · rw [findB_insB _ _ _ _ hnk] at hx
    split at hx
    · rename_i e; subst e; cases hx; rw [hb0] at hs; exact hst n hs
    · exact R'.lent i x hx n hs
theorem Rel.insO (R : Rel K ρ h w) (I : Ids K U h) (hlt : h.nb < h.lim) {m : Nat} {c : Int} {b : ABlk} {o : Obj} (hm : w.heap[m]? = some o) (hown : K.own m)
    (hne : ∀ j x, findB j h.hp = some x → ρ.b j ≠ m) (hst : ∀ n, ¬ K.still m n) (hf : b.is K.P (ρ.upd h.nb m c) o) : Rel K (ρ.upd h.nb m c) ⟨insB h.nb b h.hp, h.nb + 1, h.lim⟩ w :=
  R.insL I hlt hm hown hne (fun n hs => absurd hs (hst n)) hf
theorem Rel.ins (R : Rel K ρ h w) (I : Ids K U h) (hlt : h.nb < h.lim) {m : Nat} {c : Int} {b : ABlk} {arr : Array Value} (hm : w.heap[m]? = some (.cells arr b.elem (0, 0))) (hown : K.own m)
    (hne : ∀ j x, findB j h.hp = some x → ρ.b j ≠ m) (hst : ∀ n, ¬ K.still m n) (hf : b.fits K.P (ρ.upd h.nb m c) arr) : Rel K (ρ.upd h.nb m c) ⟨insB h.nb b h.hp, h.nb + 1, h.lim⟩ w :=
  R.insO I hlt hm hown hne hst (.inl ⟨arr, rfl, hf⟩)
theorem Ids.ins (I : Ids K U h) (hlt : h.nb < h.lim) {b : ABlk} (hb : b.In (plus U h.nb (h.nb + 1))) : Ids K (plus U h.nb (h.nb + 1)) ⟨insB h.nb b h.hp, h.nb + 1, h.lim⟩ := by
  have hnu : ¬ U h.nb := I.fresh _ (Nat.le_refl _) hlt
  have hnk : h.nb ∉ Go.Proofs.YtojifefdokekpaaDoor.SX.keys h.hp := fun hk => hnu (I.keys _ hk)
  refine ⟨fun i x hx => ?_, fun i hi => ?_, ?_, fun n h1 h2 => ?_, I.orc.mono plus_sub⟩
  · rw [findB_insB _ _ _ _ hnk] at hx
    split at hx
    · cases hx; exact hb
    · exact ABlk.In.mono plus_sub (I.hp i x hx)
  · have := (keys_insB h.nb b h.hp).mem_iff.1 hi
    rcases List.mem_cons.1 this with rfl | hm
    · exact .inr ⟨Nat.le_refl _, Nat.lt_succ_self _⟩
    · exact .inl (I.keys i hm)
  · exact (keys_insB h.nb b h.hp).nodup_iff.2 (List.nodup_cons.2 ⟨hnk, I.nodup⟩)
  · rintro (hu | ⟨_, h3⟩)
    · exact I.fresh n (by simp only at h1; omega) h2 hu
    · simp only at h1; omega
theorem Rel.push (R : Rel K ρ h w) (o : Obj) : Rel K ρ h { w with heap := w.heap.push o } ∧ Keeps K.own w { w with heap := w.heap.push o } := by
  have hget : ∀ n, n < w.heap.size → (w.heap.push o)[n]? = w.heap[n]? := fun n hn => by rw [Array.getElem?_push_lt hn, Array.getElem?_eq_getElem hn]
  have hsz : (w.heap.push o).size = w.heap.size + 1 := by simp
  refine ⟨⟨fun i b hb => ?_, R.own', R.inj, R.bs, R.is, fun p hp => ?_, fun n hn => R.room n (by simp only [hsz] at hn; omega), R.lent, fun b n hs => by have := R.low b n hs; simp only [hsz]; omega⟩, ⟨fun n hn => ?_, by simp only [hsz]; omega, rfl, rfl, rfl⟩⟩
  · obtain ⟨arr, ha, hf⟩ := R.blk i b hb
    exact ⟨arr, by show (w.heap.push o)[_]? = _; rw [hget _ (heap_lt ha)]; exact ha, hf⟩
  · obtain ⟨m1, m2, m3⟩ := R.mem p hp
    refine ⟨m1, ?_, m3⟩
    have hlt : (p.1.ev ρ).block < w.heap.size := by
      rcases Nat.lt_or_ge (p.1.ev ρ).block w.heap.size with h' | h'
      · exact h'
      · simp [World.cell?, Array.getElem?_eq_none h'] at m2
    simp only [World.cell?] at m2 ⊢
    rw [hget _ hlt]; exact m2
  · show (w.heap.push o)[n]? = _
    rcases Nat.lt_or_ge n w.heap.size with h' | h'
    · exact hget n h'
    · exact absurd (R.room n h') hn
theorem Rel.new (R : Rel K ρ h w) (I : Ids K U h) (hlt : h.nb < h.lim) {b : ABlk} {arr : Array Value} {c : Int} (hf : b.fits K.P (ρ.upd h.nb w.heap.size c) arr) :
    Rel K (ρ.upd h.nb w.heap.size c) ⟨insB h.nb b h.hp, h.nb + 1, h.lim⟩ { w with heap := w.heap.push (.cells arr b.elem (0, 0)) } := by
  obtain ⟨R', _⟩ := R.push (.cells arr b.elem (0, 0))
  refine R'.ins I hlt (by simp) (R.room _ (Nat.le_refl _)) (fun j x hx e => ?_) (fun n hs => by have := R.low _ n hs; omega) hf
  obtain ⟨arr', ha, _⟩ := R.blk j x hx
  have := heap_lt ha
  omega
theorem Rel.drop (R : Rel K ρ h w) (I : Ids K U h) (i : Nat) : Rel K ρ { h with hp := dropB i h.hp } w := by
  have hs : ∀ j b, findB j (dropB i h.hp) = some b → findB j h.hp = some b := fun j b hb => by
    rw [findB_dropB _ _ _ I.nodup] at hb
    split at hb
    · cases hb
    · exact hb
  exact ⟨fun j b hb => R.blk j b (hs j b hb), fun j b hb => R.own' j b (hs j b hb), fun j k b c hb hc e => R.inj j k b c (hs j b hb) (hs k c hc) e, R.bs, R.is, R.mem, R.room, fun j b hb => R.lent j b (hs j b hb), R.low⟩
theorem Ids.drop (I : Ids K U h) (i : Nat) : Ids K U { h with hp := dropB i h.hp } :=
  ⟨fun j b hb => I.hp j b (by
    rw [findB_dropB _ _ _ I.nodup] at hb
    split at hb
    · cases hb
    · exact hb), fun j hj => I.keys j ((keys_dropB_sub i h.hp).mem hj), (keys_dropB_sub i h.hp).nodup I.nodup, I.fresh, I.orc⟩
structure Grows (K : Ctx) (U : Nat → Prop) (h h' : AH) : Prop where
  nb : h.nb ≤ h'.nb
  lim : h'.lim = h.lim
  ids : Ids K (plus U h.nb h'.nb) h'
theorem plus_none {U : Nat → Prop} {a : Nat} : ∀ n, plus U a a n → U n := fun n h => h.elim id fun h => by omega
theorem Ids.congr {U U' : Nat → Prop} (I : Ids K U h) (h1 : ∀ n, U n ↔ U' n) : Ids K U' h :=
  ⟨fun i b hb => ABlk.In.mono (fun n => (h1 n).1) (I.hp i b hb), fun i hi => (h1 i).1 (I.keys i hi), I.nodup, fun n a b c => I.fresh n a b ((h1 n).2 c), I.orc.mono fun n => (h1 n).1⟩
theorem Grows.refl (I : Ids K U h) : Grows K U h h := ⟨Nat.le_refl _, rfl, I.congr fun n => ⟨.inl, plus_none n⟩⟩
theorem plus_plus {U : Nat → Prop} {a b c : Nat} (h1 : a ≤ b) (h2 : b ≤ c) (n : Nat) : plus (plus U a b) b c n ↔ plus U a c n := by
  unfold plus
  constructor
  · rintro ((h | h) | h)
    · exact .inl h
    · exact .inr ⟨h.1, by omega⟩
    · exact .inr ⟨by omega, h.2⟩
  · rintro (h | h)
    · exact .inl (.inl h)
    · by_cases e : n < b
      · exact .inl (.inr ⟨h.1, e⟩)
      · exact .inr ⟨by omega, h.2⟩
theorem Grows.trans {h' h'' : AH} (g : Grows K U h h') (g' : Grows K (plus U h.nb h'.nb) h' h'') : Grows K U h h'' :=
  ⟨Nat.le_trans g.nb g'.nb, g'.lim.trans g.lim, g'.ids.congr fun n => plus_plus g.nb g'.nb n⟩
def After (K : Ctx) (U : Nat → Prop) (ρ : Env) (w : World) (h' : AH) (Q : Env → Prop) (w' : World) : Prop :=
  ∃ ρ', Agree U ρ ρ' ∧ Rel K ρ' h' w' ∧ Keeps K.own w w' ∧ Q ρ'
theorem After.same (R : Rel K ρ h w) {Q : Env → Prop} (hq : Q ρ) : After K U ρ w h Q w := ⟨ρ, Agree.refl _ _, R, Keeps.refl _ _, hq⟩
theorem alloc?_sound (R : Rel K ρ h w) (I : Ids K U h) {b : ABlk} {v : AV} {h' : AH} (ha : alloc? h b = .ok (v, h')) (hb : b.In U) :
    (∃ a, v = .ptr (some a)) ∧ v.In (plus U h.nb h'.nb) ∧ Grows K U h h' ∧ ∀ arr, b.fits K.P ρ arr →
      After K U ρ w h' (fun ρ' => v.ev ρ' = .pointer (some ⟨w.heap.size, 0, none⟩)) { w with heap := w.heap.push (.cells arr b.elem (0, 0)) } := by
  obtain ⟨hp, nb, lim⟩ := h
  simp only [alloc?] at ha
  split at ha
  · rename_i hlt
    cases ha
    have hnu : ¬ U nb := I.fresh _ (Nat.le_refl _) hlt
    refine ⟨⟨_, rfl⟩, ⟨.inr ⟨Nat.le_refl _, Nat.lt_succ_self _⟩, trivial⟩, ⟨Nat.le_succ _, rfl, I.ins hlt (ABlk.In.mono plus_sub hb)⟩, fun arr hf => ?_⟩
    refine ⟨ρ.upd nb w.heap.size 0, agree_upd hnu, R.new I hlt (fits_agree (agree_upd hnu) hb hf), (R.push _).2, ?_⟩
    simp [AV.ev, AA.ev, BR.ev, IE.ev, Env.upd]
  · cases ha
theorem allocSlice?_sound (R : Rel K ρ h w) (I : Ids K U h) {b : ABlk} {l c : IE} {v : AV} {h' : AH} (ha : allocSlice? h b l c = .ok (v, h')) (hb : b.In U) (hl : l.In U) (hc : c.In U) :
    v.In (plus U h.nb h'.nb) ∧ Grows K U h h' ∧ ∀ arr, b.fits K.P ρ arr →
      After K U ρ w h' (fun ρ' => v.ev ρ' = .slice (some ⟨w.heap.size, 0, none⟩) (l.ev ρ).toNat (c.ev ρ).toNat) { w with heap := w.heap.push (.cells arr b.elem (0, 0)) } := by
  obtain ⟨hp, nb, lim⟩ := h
  simp only [allocSlice?] at ha
  split at ha
  · rename_i hlt
    cases ha
    have hnu : ¬ U nb := I.fresh _ (Nat.le_refl _) hlt
    refine ⟨⟨⟨.inr ⟨Nat.le_refl _, Nat.lt_succ_self _⟩, trivial⟩, IE.In.mono plus_sub hl, IE.In.mono plus_sub hc⟩, ⟨Nat.le_succ _, rfl, I.ins hlt (ABlk.In.mono plus_sub hb)⟩, fun arr hf => ?_⟩
    refine ⟨ρ.upd nb w.heap.size 0, agree_upd hnu, R.new I hlt (fits_agree (agree_upd hnu) hb hf), (R.push _).2, ?_⟩
    simp only [AV.ev, IE.ev_agree (agree_upd hnu) hl, IE.ev_agree (agree_upd hnu) hc]
    simp [AA.ev, BR.ev, IE.ev, Env.upd]
  · cases ha
end
end Go.Proofs.YtojifefdokekpaaDoor.SX
set_option linter.unusedSectionVars false
set_option linter.unusedVariables false
set_option linter.unusedSimpArgs false
namespace Go.Proofs.YtojifefdokekpaaDoor.SX
theorem bind_ok {α β : Type} {x : M α} {f : α → M β} {b : β} : (x >>= f) = .ok b ↔ ∃ a, x = .ok a ∧ f a = .ok b := by
  cases x with
  | ok a => simp [bind, Except.bind]
  | error e => simp [bind, Except.bind]
theorem pure_ok {α : Type} {a b : α} : (pure a : M α) = .ok b ↔ a = b := by simp [pure, Except.pure]
theorem of1_ev (ρ : Env) (v : Value) : (of1 v).ev ρ = v := by
  unfold of1
  split <;> simp [AV.ev, BE.ev, IE.ev, AA.ev, BR.ev]
theorem of1_in {U : Nat → Prop} (v : Value) : (of1 v).In U := by
  unfold of1
  split <;> simp [AV.In, BE.In, IE.In, AA.In, BR.In, optIn]
theorem of1_evs (ρ : Env) (l : List Value) : AV.evs ρ (l.map of1) = l := by
  rw [evs_map, List.map_map]
  conv => rhs; rw [← List.map_id l]
  exact List.map_congr_left fun v _ => of1_ev ρ v
theorem of1_ins {U : Nat → Prop} (l : List Value) : AV.Ins U (l.map of1) := Ins_iff.2 fun a ha => by
  obtain ⟨v, _, rfl⟩ := List.mem_map.1 ha; exact of1_in v
theorem ofIface_ev (ρ : Env) (v : Value) : (ofIface v).ev ρ = v := by
  unfold ofIface
  split
  · simp [AV.ev, of1_ev]
  · exact of1_ev ρ _
theorem ofIface_in {U : Nat → Prop} (v : Value) : (ofIface v).In U := by
  unfold ofIface
  split
  · exact of1_in _
  · exact of1_in _
theorem of2_ev (ρ : Env) (v : Value) : (of2 v).ev ρ = v := by
  unfold of2
  split
  · simp [AV.ev, of1_evs]
  · simp [AV.ev, of1_evs]
  · exact ofIface_ev ρ _
theorem of2_in {U : Nat → Prop} (v : Value) : (of2 v).In U := by
  unfold of2
  split
  · exact of1_ins _
  · exact of1_ins _
  · exact ofIface_in _
theorem ofValue_ev (ρ : Env) (v : Value) : (ofValue v).ev ρ = v := by
  unfold ofValue
  split
  · simp only [AV.ev, evs_map, List.map_map]
    congr 1
    rename_i vs
    have : vs.toList.map (AV.ev ρ ∘ of2) = vs.toList := by
      conv => rhs; rw [← List.map_id vs.toList]
      exact List.map_congr_left fun v _ => of2_ev ρ v
    rw [this]
  · exact of2_ev ρ _
theorem ofValue_in {U : Nat → Prop} (v : Value) : (ofValue v).In U := by
  unfold ofValue
  split
  · exact Ins_iff.2 fun a ha => by obtain ⟨v, _, rfl⟩ := List.mem_map.1 ha; exact of2_in v
  · exact of2_in _
mutual
theorem val?_ev (ρ : Env) : ∀ (a : AV) {v : Value}, a.val? = some v → a.ev ρ = v
  | .bool b, v, h => by cases b <;> simp_all [AV.val?, AV.ev, BE.ev]
  | .int k e, v, h => by cases e <;> simp_all [AV.val?, AV.ev, IE.ev]
  | .str s, v, h => by simp_all [AV.val?, AV.ev]
  | .ptr a, v, h => by
    unfold AV.val? at h
    split at h <;> simp_all [AV.ev, AA.ev, BR.ev, IE.ev]
    all_goals first
      | (obtain ⟨rfl, rfl⟩ := h; simp_all [AV.ev, AA.ev, BR.ev, IE.ev]; done)
      | (rename_i hh; subst hh; simp [AA.ev, BR.ev, IE.ev]; done)
      | skip
  | .slice a l c, v, h => by
    unfold AV.val? at h
    split at h <;> simp_all [AV.ev, AA.ev, BR.ev, IE.ev]
    all_goals first
      | (obtain ⟨rfl, rfl, rfl⟩ := ‹_ ∧ _ ∧ _›; simp [IE.ev]; done)
      | skip
  | .map r, v, h => by cases r <;> simp_all [AV.val?, AV.ev]
  | .chan r, v, h => by cases r <;> simp_all [AV.val?, AV.ev]
  | .func f x y, v, h => by
    simp only [AV.val?] at h
    split at h
    · rename_i x' y' hx hy
      simp only [AV.ev, vals?_evs ρ x hx, vals?_evs ρ y hy]
      simpa using h
    · cases h
  | .nilFunc, v, h => by simp_all [AV.val?, AV.ev]
  | .iface t u, v, h => by
    simp only [AV.val?] at h
    split at h
    · rename_i u' hu
      simp only [AV.ev, val?_ev ρ u hu]
      simpa using h
    · cases h
  | .nilIface, v, h => by simp_all [AV.val?, AV.ev]
  | .agg x, v, h => by
    simp only [AV.val?] at h
    split at h
    · rename_i u' hu
      simp only [AV.ev, vals?_evs ρ x hu]
      simpa using h
    · cases h
  | .tuple x, v, h => by
    simp only [AV.val?] at h
    split at h
    · rename_i u' hu
      simp only [AV.ev, vals?_evs ρ x hu]
      simpa using h
    · cases h
  | .opq i, v, h => by simp [AV.val?] at h
  | .raw u, v, h => by simp_all [AV.val?, AV.ev]
  | .ss e, v, h => by simp [AV.val?] at h
theorem vals?_evs (ρ : Env) : ∀ (l : List AV) {vs : List Value}, AV.vals? l = some vs → AV.evs ρ l = vs
  | [], vs, h => by simp_all [AV.vals?, AV.evs]
  | a :: l, vs, h => by
    simp only [AV.vals?] at h
    split at h
    · rename_i v vs' hv hvs
      simp only [AV.evs, val?_ev ρ a hv, vals?_evs ρ l hvs]
      simpa using h
    · cases h
end
section
variable {K : Ctx} {ρ : Env} {h : AH} {w : World} {U : Nat → Prop}
theorem fold_ev (ρ : Env) (e : IE) : e.fold.ev ρ = e.ev ρ := by
  unfold IE.fold
  split <;> simp [IE.ev, SE.ev]
theorem fold_in {e : IE} (hi : e.In U) : e.fold.In U := by
  unfold IE.fold
  split <;> first | trivial | exact hi
theorem int_ev (R : Rel K ρ h w) (e : IE) : (K.O.int e).ev ρ = e.ev ρ := by
  unfold Orc.int
  split
  · rename_i n hn; rw [← fold_ev ρ e, hn]
  · rename_i hn
    cases hl : look IE.eqb e.fold K.O.is with
    | none => simp [fold_ev]
    | some e' =>
      obtain ⟨x, hx, he⟩ := look_some hl
      obtain rfl := IE.eqb_eq he
      simp only [Option.getD_some]
      rw [← R.is _ hx, fold_ev]
theorem int_in (I : Ids K U h) {e : IE} (hi : e.In U) : (K.O.int e).In U := by
  unfold Orc.int
  split
  · trivial
  · cases hl : look IE.eqb e.fold K.O.is with
    | none => exact fold_in hi
    | some e' =>
      obtain ⟨x, hx, _⟩ := look_some hl
      exact (I.orc.is _ hx).2
theorem bfold_ev (ρ : Env) (b : BE) : b.fold.ev ρ = b.ev ρ := by
  unfold BE.fold
  split <;> simp [BE.ev, IE.ev, SE.ev]
theorem bfold_in {b : BE} (hi : b.In U) : b.fold.In U := by
  unfold BE.fold
  split <;> first | trivial | exact hi
theorem bool_ev (R : Rel K ρ h w) (b : BE) : (K.O.bool b).ev ρ = b.ev ρ := by
  unfold Orc.bool
  split
  · rename_i n hn; rw [← bfold_ev ρ b, hn]
  · rename_i hn
    split
    · rename_i v hv
      obtain ⟨x, hx, he⟩ := look_some hv
      obtain rfl := BE.eqb_eq he
      rw [← bfold_ev ρ b, R.bs _ hx]; rfl
    · exact bfold_ev ρ b
theorem bool_in {b : BE} (hi : b.In U) : (K.O.bool b).In U := by
  unfold Orc.bool
  split
  · trivial
  · split
    · trivial
    · exact bfold_in hi
theorem bool_lit (R : Rel K ρ h w) {b : BE} {t : Bool} (e : K.O.bool b = .lit t) : b.ev ρ = t := by
  rw [← bool_ev R b, e]; rfl
theorem dec_ev (R : Rel K ρ h w) {b : BE} {t : Bool} (e : K.O.dec b = .ok t) : b.ev ρ = t := by
  unfold Orc.dec at e
  split at e
  · rename_i v hv; cases e; exact bool_lit R hv
  · cases e
theorem normI_ev (R : Rel K ρ h w) (v : AV) : (normI K.O v).ev ρ = v.ev ρ := by
  cases v <;> simp only [normI, AV.ev]
  rw [int_ev R]
theorem normI_in (I : Ids K U h) {v : AV} (hv : v.In U) : (normI K.O v).In U := by
  cases v <;> first | exact hv | skip
  exact int_in I hv
theorem cells?_ev {v : AV} {cs : List AV} (hc : v.cells? = .ok cs) (ρ : Env) : (v.ev ρ).cells = (AV.evs ρ cs).toArray := by
  cases v <;> simp [AV.cells?] at hc <;> subst hc <;> simp [AV.ev, Value.cells, AV.evs]
theorem cells?_in {v : AV} {cs : List AV} (hc : v.cells? = .ok cs) (hi : v.In U) : AV.Ins U cs := by
  cases v <;> simp [AV.cells?] at hc <;> subst hc <;> first | exact hi | exact ⟨hi, trivial⟩
theorem zero?_ok {P : Program} {t : TypeId} {z : AV} (h : zero? P t = .ok z) : ∃ i v, P.info? t = some i ∧ i.zero = some v ∧ z = ofValue v := by
  unfold zero? at h
  split at h
  · rename_i i hi
    split at h
    · rename_i v hv; cases h; exact ⟨i, v, hi, hv, rfl⟩
    · cases h
  · cases h
theorem wq_zeroValue {P : Program} {Ev : Event → Prop} {E : Value → World → Prop} {t : TypeId} {z : AV} (hz : zero? P t = .ok z) {Q : Value → World → Prop} {w : World} : wq P Ev E (zeroValue t) Q w ↔ Q (z.ev ρ) w := by
  obtain ⟨i, v, hi, hv, rfl⟩ := zero?_ok hz
  simp [zeroValue, wq_typeInfo hi, hv, ofValue_ev]
theorem zero?_in {P : Program} {t : TypeId} {z : AV} (hz : zero? P t = .ok z) : z.In U := by
  obtain ⟨i, v, hi, hv, rfl⟩ := zero?_ok hz
  exact ofValue_in v
theorem wq_part {E : Value → World → Prop} {t : TypeId} {cs : List AV} {off : Nat} {v : AV} (hp : part? K.P t cs off = .ok v) {Q : Value → World → Prop} {w : World} (hq : Q (v.ev ρ) w) :
    wq K.P K.Ev E (part t (AV.evs ρ cs).toArray off) Q w := by
  unfold part? at hp
  rw [bind_ok] at hp
  obtain ⟨b, hb, hp⟩ := hp
  simp only [part, wq_bind, wq_isAgg hb]
  split at hp
  · rename_i hb'
    rw [bind_ok] at hp
    obtain ⟨n, hn, hp⟩ := hp
    split at hp
    · rename_i hle
      cases hp
      rw [if_pos hb']
      simp only [wq_bind, wq_sizeOf hn, wq_pure]
      simp only [AV.ev] at hq
      have : (AV.evs ρ cs).toArray.extract off (off + n) = (AV.evs ρ ((cs.drop off).take n)).toArray := by
        rw [evs_map, evs_map, List.extract_toArray]
        simp [List.extract_eq_take_drop, List.map_take, List.map_drop]
      rw [this]; exact hq
    · cases hp
  · rename_i hb'
    rw [if_neg hb']
    split at hp
    · rename_i u hu
      cases hp
      have : (AV.evs ρ cs).toArray[off]? = some (v.ev ρ) := by
        rw [List.getElem?_toArray, evs_get, hu]; rfl
      rw [this]; exact hq
    · cases hp
theorem part?_in {P : Program} {t : TypeId} {cs : List AV} {off : Nat} {v : AV} (hp : part? P t cs off = .ok v) (hi : AV.Ins U cs) : v.In U := by
  unfold part? at hp
  rw [bind_ok] at hp
  obtain ⟨b, hb, hp⟩ := hp
  split at hp
  · rw [bind_ok] at hp
    obtain ⟨n, hn, hp⟩ := hp
    split at hp
    · cases hp
      exact Ins_iff.2 fun a ha => Ins_iff.1 hi _ (List.mem_of_mem_drop (List.mem_of_mem_take ha))
    · cases hp
  · split at hp
    · rename_i u hu; cases hp; exact Ins_iff.1 hi _ (List.mem_of_getElem? hu)
    · cases hp
theorem wq_loadVar (R : Rel K ρ h w) (G : K.Good) {E : Value → World → Prop} {t : TypeId} {a : AA} {v : AV} (hl : loadVar? K.P K.O h t a = .ok v) {Q : Value → World → Prop} (hq : Q (v.ev ρ) w) :
    wq K.P K.Ev E (loadVar t (a.ev ρ)) Q w := by
  unfold loadVar? at hl
  rw [bind_ok] at hl
  obtain ⟨b, hb, hl⟩ := hl
  simp only [loadVar, wq_bind, wq_isAgg hb]
  split at hl
  · rename_i hb'
    simp only [bind_ok, pure_ok] at hl
    obtain ⟨n, hn, l, hl, rfl⟩ := hl
    rw [if_pos hb']
    simp only [wq_bind, wq_sizeOf hn, loadCells]
    exact loadN_sound R G hl (by simpa [AV.ev] using hq)
  · rename_i hb'
    rw [if_neg hb']
    obtain ⟨h1, h2⟩ := load1_sound R G hl
    rw [wq_load]
    exact ⟨_, h1, h2 _, hq⟩
theorem loadVar?_in (I : Ids K U h) {t : TypeId} {a : AA} {v : AV} (hl : loadVar? K.P K.O h t a = .ok v) : v.In U := by
  unfold loadVar? at hl
  rw [bind_ok] at hl
  obtain ⟨b, hb, hl⟩ := hl
  split at hl
  · simp only [bind_ok, pure_ok] at hl
    obtain ⟨n, hn, l, hl, rfl⟩ := hl
    exact loadN_in I hl
  · exact load1_in I hl
theorem wq_storeVar (R : Rel K ρ h w) (G : K.Good) {E : Value → World → Prop} {t : TypeId} {a : AA} {v : AV} {h' : AH} (hs : storeVar? K.P h t a v = .ok h') {Q : Unit → World → Prop}
    (hq : ∀ w', Rel K ρ h' w' → Keeps K.own w w' → h'.nb = h.nb → h'.lim = h.lim → Q () w') : wq K.P K.Ev E (storeVar t (a.ev ρ) (v.ev ρ)) Q w := by
  unfold storeVar? at hs
  simp only [bind_ok] at hs
  obtain ⟨cs, hc, n, hn, hs⟩ := hs
  split at hs
  · rename_i hlen
    have hcells := cells?_ev hc ρ
    simp only [storeVar, wq_bind, wq_sizeOf hn, hcells]
    have hsz : (AV.evs ρ cs).toArray.size = n := by simp [evs_length, hlen]
    rw [if_neg (by simpa using hsz)]
    exact storeN_sound G R hs hq
  · cases hs
theorem storeVar?_ids (I : Ids K U h) {t : TypeId} {a : AA} {v : AV} {h' : AH} (hs : storeVar? K.P h t a v = .ok h') (ha : a.In U) (hv : v.In U) : Ids K U h' := by
  unfold storeVar? at hs
  simp only [bind_ok] at hs
  obtain ⟨cs, hc, n, hn, hs⟩ := hs
  split at hs
  · exact storeN_ids ha I hs (cells?_in hc hv)
  · cases hs
theorem row1_sound (R : Rel K ρ h w) (G : K.Good) {i : Nat} {e : TypeId} {c : IE} (hb : findB i h.hp = some (.row [] e c)) {n : Nat} {inf : TypeInfo} (hi : K.P.info? e = some inf) (hn : n < (c.ev ρ).toNat * inf.size) (v : Value) :
    (∃ u, w.cell? ⟨ρ.b i, n, none⟩ = some u) ∧ w.frozen? ⟨ρ.b i, n, none⟩ = false ∧ (∀ s, K.Ev ⟨.cell ⟨ρ.b i, n, none⟩, true, s⟩) ∧ Rel K ρ h (w.setCell ⟨ρ.b i, n, none⟩ v) ∧ Keeps K.own w (w.setCell ⟨ρ.b i, n, none⟩ v) := by
  obtain ⟨arr, ha, rest, inf', hf1, hf2, hf3⟩ := R.arr hb rfl
  obtain rfl : inf = inf' := by rw [hi] at hf2; exact Option.some.inj hf2
  have hlt : n < arr.size := by rw [hf3]; exact hn
  have hown := R.own _ _ hb rfl
  have hns : ¬ K.still (ρ.b i) n := fun x => by have := R.lent _ _ hb n x; cases this
  refine ⟨⟨arr[n], by rw [cell?_of ha]; simp [hlt]⟩, frozen?_of ha, fun s => G.wr _ _ hown hns, ?_, ?_⟩
  · refine ⟨fun j b hj => ?_, R.own', R.inj, R.bs, R.is, fun p hp => ?_, fun m hm => R.room m (by rw [size_setCell] at hm; exact hm), R.lent, fun b m hm => by rw [size_setCell]; exact R.low b m hm⟩
    · by_cases ej : j = i
      · subst ej
        rw [hb] at hj; cases hj
        refine ⟨.cells (arr.setIfInBounds n v) e (0, 0), ?_, .inl ⟨_, rfl, (arr.setIfInBounds n v).toList, inf, (List.nil_append _).symm, hi, by simpa using hf3⟩⟩
        rw [heap_setCell, if_pos rfl, ha]; rfl
      · obtain ⟨o, ho, hi'⟩ := R.blk _ _ hj
        exact ⟨o, by rw [heap_setCell, if_neg (fun x => ej (R.inj _ _ _ _ hj hb x)), ho], hi'⟩
    · obtain ⟨m1, m2, m3⟩ := R.mem p hp
      refine ⟨m1, ?_, m3⟩
      have hne : (p.1.ev ρ).block ≠ ρ.b i := fun x => m1 (x ▸ hown)
      simp only [World.cell?] at m2 ⊢
      rw [heap_setCell, if_neg hne]; exact m2
  · refine ⟨fun m hm => ?_, by rw [size_setCell]; exact Nat.le_refl _, rfl, rfl, rfl⟩
    rw [heap_setCell, if_neg (fun x => hm (by rw [x]; exact hown))]
theorem rowN_sound (G : K.Good) {E : Value → World → Prop} {i : Nat} {e : TypeId} {c : IE} (hb : findB i h.hp = some (.row [] e c)) {inf : TypeInfo} (hi : K.P.info? e = some inf) {off : Nat} :
    ∀ {l : List AV} {j : Nat} {w : World}, Rel K ρ h w → oneCells l = true → off + j + l.length ≤ (c.ev ρ).toNat * inf.size → ∀ {Q : Unit → World → Prop}, (∀ w', Rel K ρ h w' → Keeps K.own w w' → Q () w') →
      wq K.P K.Ev E (storeCells ⟨ρ.b i, off, none⟩ (AV.evs ρ l) j) Q w := by
  intro l
  induction l with
  | nil => intro j w R _ _ Q hq; exact hq w R (Keeps.refl _ _)
  | cons v l ih =>
    intro j w R ho hle Q hq
    simp only [oneCells, Bool.and_eq_true] at ho
    simp only [List.length_cons] at hle
    obtain ⟨s2, s3, s4, s5, s6⟩ := row1_sound R G hb hi (n := off + j) (by omega) (v.ev ρ)
    have ea : (⟨ρ.b i, off, none⟩ : Addr).add j = ⟨ρ.b i, off + j, none⟩ := by
      by_cases hj : j = 0
      · subst hj; rfl
      · simp [Addr.add, hj]
    simp only [AV.evs, storeCells, wq_bind]
    rw [wq_store, ea]
    exact ⟨oneCell_ev ho.1 ρ, s2, s3, s4 _, ih s5 ho.2 (by omega) fun w' r1 r2 => hq w' r1 (s6.trans r2)⟩
theorem wq_storeRow (R : Rel K ρ h w) (G : K.Good) {E : Value → World → Prop} {t : TypeId} {i : Nat} {off : IE} {v : AV} {h' : AH} (hs : storeRow? K.P K.O h t i off v = .ok h') {Q : Unit → World → Prop}
    (hq : ∀ w', Rel K ρ h w' → Keeps K.own w w' → Q () w') : wq K.P K.Ev E (storeVar t ((⟨.dyn i, off⟩ : AA).ev ρ) (v.ev ρ)) Q w ∧ h' = h := by
  unfold storeRow? at hs
  simp only [bind_ok] at hs
  obtain ⟨cs, hc, hs⟩ := hs
  split at hs
  · rename_i e c hb
    simp only [bind_ok] at hs
    obtain ⟨size, hsz, ok, hok, n, hn, hs⟩ := hs
    split at hs
    · rename_i hh
      obtain ⟨hlen, hone, rfl, h0⟩ := hh
      cases hs
      refine ⟨?_, rfl⟩
      obtain ⟨inf, hi, rfl⟩ := sizeOf?_ok hsz
      have hcells := cells?_ev hc ρ
      simp only [storeVar, wq_bind, wq_sizeOf hn, hcells]
      have hs2 : (AV.evs ρ cs).toArray.size = n := by simp [evs_length, hlen]
      rw [if_neg (by simpa using hs2)]
      have hlt : ((off.ev ρ).toNat : Int) + (Int.ofNat (cs.length - 1)) < ((c.ev ρ).toNat : Int) * (Int.ofNat inf.size) := by
        have := dec_ev R hok
        exact of_decide_eq_true this
      have hle : (off.ev ρ).toNat + 0 + cs.length ≤ (c.ev ρ).toNat * inf.size := by
        have h2 : (off.ev ρ).toNat + (cs.length - 1) < (c.ev ρ).toNat * inf.size := by
          have := hlt
          simp only [Int.ofNat_eq_natCast] at this
          exact_mod_cast this
        omega
      show wq K.P K.Ev E (storeCells ⟨ρ.b i, (off.ev ρ).toNat, none⟩ (AV.evs ρ cs).toArray.toList 0) Q w
      simp only [List.toList_toArray]
      exact rowN_sound G hb hi R hone hle hq
    · cases hs
  · cases hs
theorem wq_storeS (R : Rel K ρ h w) (G : K.Good) {E : Value → World → Prop} {t : TypeId} {a : AA} {v : AV} {h' : AH} (hs : storeS? K.P K.O h t a v = .ok h') {Q : Unit → World → Prop}
    (hq : ∀ w', Rel K ρ h' w' → Keeps K.own w w' → Q () w') : wq K.P K.Ev E (storeVar t (a.ev ρ) (v.ev ρ)) Q w := by
  unfold storeS? at hs
  split at hs
  · split at hs
    · have hh : h' = h := by
        unfold storeRow? at hs
        simp only [bind_ok] at hs
        obtain ⟨cs, hc, hs⟩ := hs
        split at hs
        · simp only [bind_ok] at hs
          obtain ⟨size, hsz, ok, hok, n, hn, hs⟩ := hs
          split at hs <;> cases hs
          rfl
        · cases hs
      subst hh
      exact (wq_storeRow R G hs hq).1
    · exact wq_storeVar R G hs fun w' a b _ _ => hq w' a b
  · exact wq_storeVar R G hs fun w' a b _ _ => hq w' a b
end
end Go.Proofs.YtojifefdokekpaaDoor.SX
set_option linter.unusedSectionVars false
set_option linter.unusedVariables false
set_option linter.unusedSimpArgs false
namespace Go.Proofs.YtojifefdokekpaaDoor.SX
section
variable {K : Ctx} {ρ : Env} {h : AH} {w : World} {U : Nat → Prop}
theorem wq_viewAt_own {E : Value → World → Prop} {n : Nat} {arr : Array Value} {e : TypeId} {f : Nat × Nat} (hn : w.heap[n]? = some (.cells arr e f)) {Q : Option (Addr × TypeId) → World → Prop} (hq : Q none w) : wq K.P K.Ev E (viewAt n) Q w := by
  simp only [viewAt, wq_bind, wq_shape]
  have : (w.shape? n).isSome = true := by simp [World.shape?, hn]
  rw [if_pos this]; exact hq
theorem wq_noView_own {E : Value → World → Prop} {a : Addr} {arr : Array Value} {e : TypeId} {f : Nat × Nat} (hn : w.heap[a.block]? = some (.cells arr e f)) {Q : Unit → World → Prop} (hq : Q () w) : wq K.P K.Ev E (noView a) Q w := by
  simp only [noView, wq_bind]
  exact wq_viewAt_own hn (by simpa using hq)
theorem wq_stringish_own {E : Value → World → Prop} {b o : Nat} {arr : Array Value} {e : TypeId} (hn : w.heap[b]? = some (.cells arr e (0, 0))) {Q : Bool → World → Prop} (hq : Q false w) : wq K.P K.Ev E (stringish ⟨b, o, none⟩) Q w := by
  simp only [stringish, wq_bind, wq_frozen, frozen?_of hn]
  simp only [Bool.false_eq_true, if_false, wq_bind, wq_shape, World.shape?, hn]
  have : w.frozen? ⟨b, arr.size, none⟩ = false := frozen?_of hn
  simp only [wq_frozen, this]
  exact hq
theorem wq_sameAddr (R : Rel K ρ h w) {E : Value → World → Prop} {i j m n : Nat} {b c : ABlk} (hb : findB i h.hp = some b) (hc : findB j h.hp = some c) (mb : b.isMem = true) (mc : c.isMem = true) (hne : i ≠ j) {Q : Bool → World → Prop} (hq : Q false w) :
    wq K.P K.Ev E (sameAddr ⟨ρ.b i, m, none⟩ ⟨ρ.b j, n, none⟩) Q w := by
  obtain ⟨a1, h1, _⟩ := R.arr hb mb
  obtain ⟨a2, h2, _⟩ := R.arr hc mc
  have hne' : ¬ ρ.b i = ρ.b j := fun e => hne (R.inj i j b c hb hc e)
  have hbeq : (ρ.b i == ρ.b j) = false := by simpa using hne'
  simp only [sameAddr, wq_bind, wq_ite]
  rw [if_neg (by simp [hne'])]
  simp only [wq_frozen, wq_bind, frozen?_of h1, wq_pure]
  simp only [wq_frozen, frozen?_of h2, Bool.false_and, Bool.false_eq_true, if_false, wq_bind, wq_pure]
  refine wq_noView_own h1 ?_
  refine wq_noView_own h2 ?_
  simp only [mayBeOne, wq_bind]
  refine wq_stringish_own h1 ?_
  refine wq_stringish_own h2 ?_
  simp only [Bool.false_and, Bool.or_false, wq_bind, wq_pure, Bool.false_eq_true, if_false]
  exact hq
theorem wq_sameAddr_eq {E : Value → World → Prop} {b m n : Nat} {Q : Bool → World → Prop} (hq : Q (m == n) w) : wq K.P K.Ev E (sameAddr ⟨b, m, none⟩ ⟨b, n, none⟩) Q w := by
  simp only [sameAddr, wq_ite, wq_bind]
  rw [if_pos (by simp)]
  have : ((⟨b, m, none⟩ : Addr) == ⟨b, n, none⟩) = (m == n) := by
    by_cases e : m = n
    · subst e; simp
    · have h1 : (m == n) = false := by simpa using e
      rw [h1]
      rw [beq_eq_false_iff_ne]
      intro x; cases x; exact e rfl
  simp only [wq_pure]
  rw [this]; exact hq
theorem eqAll?_in {P : Program} {eq : TypeId → AV → AV → M BE} (hi : ∀ t x y b, eq t x y = .ok b → x.In U → y.In U → b.In U) {xs ys : List AV} (hx : AV.Ins U xs) (hy : AV.Ins U ys) : ∀ {l : List Field} {b : BE}, eqAll? P eq xs ys l = .ok b → b.In U := by
  intro l
  induction l with
  | nil => intro b he; cases he; trivial
  | cons f l ih =>
    intro b he
    unfold eqAll? at he
    split at he
    · cases he
    · rw [bind_ok] at he
      obtain ⟨a, ha, he⟩ := he
      rw [bind_ok] at he
      obtain ⟨c, hc, he⟩ := he
      rw [bind_ok] at he
      obtain ⟨r, hr, he⟩ := he
      have := hi _ _ _ _ hr (part?_in ha hx) (part?_in hc hy)
      split at he
      · exact ih he
      · cases he; trivial
      · split at he
        · cases he; exact this
        · cases he
theorem eq?_in : ∀ {d : Nat} {t : TypeId} {x y : AV} {b : BE}, eq? K.P K.O h d t x y = .ok b → x.In U → y.In U → b.In U := by
  intro d
  induction d with
  | zero => intro t x y b he; simp [eq?] at he
  | succ d ih =>
    intro t x y b he hx hy
    simp only [eq?] at he
    rw [bind_ok] at he
    obtain ⟨D, hD, he⟩ := he
    split at he
    · split at he <;> first | (rw [pure_ok] at he; subst he; trivial) | cases he
    · split at he
      · rw [pure_ok] at he; subst he; exact bool_in ⟨hx, hy⟩
      · cases he
    · rw [pure_ok] at he; subst he; trivial
    · rw [pure_ok] at he; subst he; exact bool_in trivial
    · rw [pure_ok] at he; subst he; exact bool_in trivial
    · rw [pure_ok] at he; subst he; exact bool_in trivial
    · rw [pure_ok] at he; subst he; trivial
    · rw [pure_ok] at he; subst he; trivial
    · rw [bind_ok] at he
      obtain ⟨s, hs, he⟩ := he
      split at he
      · cases he
      · split at he
        · split at he
          · rw [pure_ok] at he; subst he; trivial
          · split at he
            · split at he <;> first | (rw [pure_ok] at he; subst he; trivial) | cases he
            · cases he
        · split at he <;> first | (rw [pure_ok] at he; subst he; trivial) | cases he
        · cases he
    · rw [pure_ok] at he; subst he; trivial
    · rw [pure_ok] at he; subst he; trivial
    · rw [pure_ok] at he; subst he; trivial
    · split at he
      · split at he
        · split at he
          · exact ih he hx hy
          · cases he
        · cases he
      · rw [pure_ok] at he; subst he; trivial
    rotate_right 2
    · split at he
      · cases he
      · exact eqAll?_in (fun _ _ _ _ h1 h2 h3 => ih h1 h2 h3) hx hy he
    · cases he
    all_goals first
      | (rw [pure_ok] at he; subst he; trivial)
      | cases he
theorem wq_eqAll {E : Value → World → Prop} {D : Nat} {eq : TypeId → AV → AV → M BE} (hi : ∀ {t x y b}, eq t x y = .ok b → ∀ {Q : Bool → World → Prop}, Q (b.ev ρ) w → wq K.P K.Ev E (Op.equalIn D t (x.ev ρ) (y.ev ρ)) Q w) {xs ys : List AV} :
    ∀ {l : List Field} {b : BE}, eqAll? K.P eq xs ys l = .ok b → ∀ {Q : Option Bool × Unit → World → Prop}, Q (if b.ev ρ = true then (none, ()) else (some false, ())) w → wq K.P K.Ev E (forIn l ((none, ()) : Option Bool × Unit) fun f _ =>
                if f.name ≠ "_" then do
                  let a ← part f.type (AV.evs ρ xs).toArray f.offset
                  let b ← part f.type (AV.evs ρ ys).toArray f.offset
                  let c ← Op.equalIn D f.type a b
                  if (!c) = true then pure (ForInStep.done (some false, ())) else pure (ForInStep.yield (none, ()))
                else pure (ForInStep.yield (none, ()))) Q w := by
  intro l
  induction l with
  | nil =>
    intro b he Q hq
    cases he
    simp only [List.forIn_nil, wq_pure]
    exact hq
  | cons f l ih =>
    intro b he Q hq
    unfold eqAll? at he
    split at he
    · cases he
    · rename_i hn
      rw [bind_ok] at he
      obtain ⟨a, ha, he⟩ := he
      rw [bind_ok] at he
      obtain ⟨c, hc, he⟩ := he
      rw [bind_ok] at he
      obtain ⟨r, hr, he⟩ := he
      simp only [List.forIn_cons, wq_bind]
      rw [if_pos hn]
      simp only [wq_bind]
      refine wq_part ha (wq_part hc (hi hr ?_))
      split at he
      · simp only [BE.ev, Bool.not_true, Bool.false_eq_true, if_false, wq_pure]
        exact ih he hq
      · cases he
        simp only [BE.ev, Bool.not_false, if_true, wq_pure] at hq ⊢
        exact hq
      · split at he
        · have e := Except.ok.inj he
          rw [e]
          by_cases hb : b.ev ρ = true
          · rw [if_pos hb] at hq
            simp only [hb, Bool.not_true, Bool.false_eq_true, if_false, wq_pure, List.forIn_nil]
            exact hq
          · rw [if_neg hb] at hq
            have hb' : b.ev ρ = false := by simpa using hb
            simp only [hb', Bool.not_false, if_true, wq_pure]
            exact hq
        · cases he
theorem seq_ev (a b : SE) : (BE.seq false a b).ev ρ = (a.ev ρ == b.ev ρ) := by
  rw [beq_toListBytes]
  simp [BE.ev]
theorem wq_equalIn (R : Rel K ρ h w) {E : Value → World → Prop} : ∀ {d D : Nat} {t : TypeId} {x y : AV} {b : BE}, d ≤ D → eq? K.P K.O h d t x y = .ok b → ∀ {Q : Bool → World → Prop}, Q (b.ev ρ) w →
    wq K.P K.Ev E (Op.equalIn D t (x.ev ρ) (y.ev ρ)) Q w := by
  intro d
  induction d with
  | zero => intro D t x y b _ he; simp [eq?] at he
  | succ d ih =>
    intro D t x y b hD he Q hq
    obtain ⟨D, rfl⟩ : ∃ D', D = D' + 1 := ⟨D - 1, by omega⟩
    simp only [eq?] at he
    rw [bind_ok] at he
    obtain ⟨T, hT, he⟩ := he
    have hU := under?_ok hT
    simp only [Op.equalIn, wq_bind, wq_underlying hU]
    split at he
    ·
      rename_i a b'
      simp only [AV.ev]
      split at he
      · rename_i t1 t2 e1 e2
        rw [pure_ok] at he; subst he
        rw [wq_pure, bool_lit R e1, bool_lit R e2]; exact hq
      · cases he
    ·
      simp only [AV.ev]
      split at he
      · rename_i hk
        rw [pure_ok] at he; subst he
        rw [bool_ev R] at hq
        simp only [wq_ite, if_pos hk, wq_pure]
        exact hq
      · cases he
    · simp only [AV.ev]; rw [pure_ok] at he; subst he; rw [wq_pure]; exact hq
    · simp only [AV.ev]; rw [pure_ok] at he; subst he; rw [bool_ev R, seq_ev] at hq; rw [wq_pure]; exact hq
    · simp only [AV.ev]; rw [pure_ok] at he; subst he; rw [bool_ev R, seq_ev] at hq; rw [wq_pure]; exact hq
    · simp only [AV.ev]; rw [pure_ok] at he; subst he; rw [bool_ev R, seq_ev] at hq; rw [wq_pure]; exact hq
    · rw [pure_ok] at he; subst he
      rename_i b'
      cases b' <;> simpa [AV.ev, BE.ev] using hq
    · rw [pure_ok] at he; subst he; simpa [AV.ev, BE.ev] using hq
    ·
      rename_i e a b'
      rw [bind_ok] at he
      obtain ⟨s, hs, he⟩ := he
      split at he
      · cases he
      · rename_i hs0
        simp only [AV.ev, Option.map_some, wq_bind, wq_sizeOf hs]
        rw [if_pos hs0]
        split at he
        · rename_i i m j n h1 h2 h3 h4
          have ea : a.ev ρ = ⟨ρ.b i, m, none⟩ := by simp [AA.ev, h1, h2, BR.ev, IE.ev]
          have eb : b'.ev ρ = ⟨ρ.b j, n, none⟩ := by simp [AA.ev, h3, h4, BR.ev, IE.ev]
          rw [ea, eb]
          split at he
          · rename_i hij
            rw [pure_ok] at he; subst he
            have : i = j := by simpa using hij
            subst this
            exact wq_sameAddr_eq hq
          · rename_i hij
            have hne : i ≠ j := by simpa using hij
            split at he
            · rename_i hb hc
              split at he
              · rename_i hm
                rw [Bool.and_eq_true] at hm
                rw [pure_ok] at he; subst he
                exact wq_sameAddr R hb hc hm.1 hm.2 hne hq
              · cases he
            · cases he
        · rename_i i m j n h1 h2 h3 h4
          have ea : a.ev ρ = ⟨i, m, none⟩ := by simp [AA.ev, h1, h2, BR.ev, IE.ev]
          have eb : b'.ev ρ = ⟨j, n, none⟩ := by simp [AA.ev, h3, h4, BR.ev, IE.ev]
          rw [ea, eb]
          split at he
          · rename_i hij
            rw [pure_ok] at he; subst he
            have : i = j := by simpa using hij
            subst this
            exact wq_sameAddr_eq hq
          · cases he
        · cases he
    · rw [pure_ok] at he; subst he; simpa [AV.ev, BE.ev] using hq
    · rw [pure_ok] at he; subst he; simpa [AV.ev, BE.ev] using hq
    · rw [pure_ok] at he; subst he; simpa [AV.ev, BE.ev] using hq
    ·
      rename_i tx vx ty vy
      simp only [AV.ev]
      split at he
      · rename_i htt
        have : tx = ty := by simpa using htt
        subst this
        split at he
        · rename_i i hi
          split at he
          · rename_i hcmp
            simp only [wq_ite, wq_bind, wq_typeInfo hi]
            rw [if_neg (by simp), if_neg (by simp [hcmp])]
            exact ih (by omega) he hq
          · cases he
        · cases he
      · rename_i htt
        have : tx ≠ ty := by simpa using htt
        rw [pure_ok] at he; subst he
        simp only [wq_ite]
        rw [if_pos this]; exact hq
    · rw [pure_ok] at he; subst he
      rename_i b' _ _
      cases b' <;> simpa [AV.ev, BE.ev] using hq
    · rw [pure_ok] at he; subst he; simpa [AV.ev, BE.ev] using hq
    · rw [pure_ok] at he; subst he
      rename_i b'
      cases b' <;> simpa [AV.ev, BE.ev] using hq
    · rw [pure_ok] at he; subst he; simpa [AV.ev, BE.ev] using hq
    · rw [pure_ok] at he; subst he; simpa [AV.ev, BE.ev] using hq
    · rw [pure_ok] at he; subst he; simpa [AV.ev, BE.ev] using hq
    · rw [pure_ok] at he; subst he; simpa [AV.ev, BE.ev] using hq
    · rw [pure_ok] at he; subst he
      rename_i b'
      cases b' <;> simpa [AV.ev, BE.ev] using hq
    · rw [pure_ok] at he; subst he; simpa [AV.ev, BE.ev] using hq
    · rename_i fs xs ys
      split at he
      · cases he
      · rename_i hst
        simp only [AV.ev, wq_bind, wq_program]
        rw [if_neg hst]
        simp only [wq_bind]
        rw [← Array.forIn_toList]
        refine wq_eqAll (fun h1 _ h2 => ih (by omega) h1 h2) he ?_
        by_cases hb : b.ev ρ = true
        · rw [if_pos hb]; rw [hb] at hq; exact hq
        · rw [if_neg hb]; rw [show b.ev ρ = false by simpa using hb] at hq; exact hq
    · cases he
theorem wq_equal (R : Rel K ρ h w) {E : Value → World → Prop} {t : TypeId} {x y : AV} {b : BE} (he : eq? K.P K.O h 8 t x y = .ok b) {Q : Bool → World → Prop} (hq : Q (b.ev ρ) w) :
    wq K.P K.Ev E (Op.equal t (x.ev ρ) (y.ev ρ)) Q w := wq_equalIn R (by unfold Op.maxDepth; omega) he hq
theorem notB_ev {b c : BE} (hn : notB b = .ok c) (ρ : Env) : c.ev ρ = !b.ev ρ := by
  cases b with
  | lit t => simp [notB] at hn; subst hn; rfl
  | var i => simp [notB] at hn
  | cmp o a b =>
    cases o <;> simp [notB] at hn <;> subst hn <;> simp only [BE.ev, icmp]
    · simp [bne]
    · simp [bne]
    · simp [decide_not.symm, Int.not_lt]
    · simp [decide_not.symm, Int.not_le]
    · simp [decide_not.symm, Int.not_lt]
    · simp [decide_not.symm, Int.not_le]
  | seq n a b =>
    simp only [notB] at hn
    cases hn
    simp only [BE.ev]
    cases n <;> simp
theorem notB_in {b c : BE} (hn : notB b = .ok c) (hi : b.In U) : c.In U := by
  cases b with
  | lit t => simp [notB] at hn; subst hn; trivial
  | var i => simp [notB] at hn
  | cmp o a b => cases o <;> simp [notB] at hn <;> subst hn <;> exact hi
  | seq n a b => simp only [notB] at hn; cases hn; trivial
end
end Go.Proofs.YtojifefdokekpaaDoor.SX
set_option linter.unusedSectionVars false
set_option linter.unusedVariables false
set_option linter.unusedSimpArgs false
namespace Go.Proofs.YtojifefdokekpaaDoor.SX
section
variable {K : Ctx} {ρ : Env} {h : AH} {w : World} {U : Nat → Prop}
theorem binOp_int (o : BinOp) (t : TypeId) (k : IntKind) (a b : Int) (ho : intArith? o = true) : binOp o t (.int k a) (.int k b) = pure (.int k (iop o k a b)) := by
  cases o <;> simp_all [intArith?] <;> simp [binOp, iop, Op.intArith, Op.intBits]
theorem binOp_cmp (o : BinOp) (t : TypeId) (k : IntKind) (a b : Int) (ho : cmp? o = true) : binOp o t (.int k a) (.int k b) = pure (.bool (icmp o a b)) := by
  cases o <;> simp_all [cmp?] <;> simp [binOp, icmp, Op.intCmp]
theorem binOp_eql (t : TypeId) {x y : Value} (hx : (∃ k n, x = .int k n) → ¬ ∃ k n, y = .int k n) (hs : (∃ s, x = .string s) → ¬ ∃ s, y = .string s) (hf : ∀ k n, x ≠ .float k n) (hc : ∀ k n m, x ≠ .complex k n m) :
    binOp .eql t x y = (do pure (.bool (← Op.equal t x y))) := by
  cases x <;> first | exact absurd rfl (hf _ _) | exact absurd rfl (hc _ _ _) | skip
  all_goals cases y <;> first | rfl | exact absurd ⟨_, _, rfl⟩ (hx ⟨_, _, rfl⟩) | exact absurd ⟨_, rfl⟩ (hs ⟨_, rfl⟩)
theorem binOp_neq (t : TypeId) {x y : Value} (hx : (∃ k n, x = .int k n) → ¬ ∃ k n, y = .int k n) (hs : (∃ s, x = .string s) → ¬ ∃ s, y = .string s) (hf : ∀ k n, x ≠ .float k n) (hc : ∀ k n m, x ≠ .complex k n m) :
    binOp .neq t x y = (do pure (.bool (!(← Op.equal t x y)))) := by
  cases x <;> first | exact absurd rfl (hf _ _) | exact absurd rfl (hc _ _ _) | skip
  all_goals cases y <;> first | rfl | exact absurd ⟨_, _, rfl⟩ (hx ⟨_, _, rfl⟩) | exact absurd ⟨_, rfl⟩ (hs ⟨_, rfl⟩)
theorem eq?_shape {d : Nat} {t : TypeId} {x y : AV} {b : BE} (he : eq? K.P K.O h d t x y = .ok b) : (∀ k n, x.ev ρ ≠ .float k n) ∧ (∀ k n m, x.ev ρ ≠ .complex k n m) ∧ (((∃ s, x = .str s) ∨ ∃ e, x = .ss e) ∨ ∀ s, x.ev ρ ≠ .string s) ∧ ((∃ k e, x = .int k e) ∨ ∀ k n, x.ev ρ ≠ .int k n) ∧
    (((∃ s, x = .str s) ∨ ∃ e, x = .ss e) → (∃ s, y = .str s) ∨ ∃ e, y = .ss e) ∧ ((∃ k e, x = .int k e) → ∃ k e, y = .int k e) := by
  cases d with
  | zero => simp [eq?] at he
  | succ d =>
    simp only [eq?] at he
    rw [bind_ok] at he
    obtain ⟨T, hT, he⟩ := he
    split at he <;> first
      | (cases he; done)
      | (refine ⟨?_, ?_, ?_, ?_, ?_, ?_⟩ <;> simp [AV.ev])
theorem stringOp_eql (a b : ByteArray) : Op.stringOp .eql a b = pure (.bool (a.toList == b.toList)) := rfl
theorem stringOp_neq (a b : ByteArray) : Op.stringOp .neq a b = pure (.bool !(a.toList == b.toList)) := rfl
theorem dec_neg (R : Rel K ρ h w) {b : IE} {t1 : Bool} (ht1 : K.O.dec (.cmp .lss b (.lit 0)) = .ok t1) (hn : ¬ t1 = true) : ¬ b.ev ρ < 0 := by
  have h1 : decide (b.ev ρ < 0) = t1 := dec_ev R ht1
  intro hc
  exact hn (h1 ▸ decide_eq_true hc)
theorem dec_zero (R : Rel K ρ h w) {b : IE} {t1 : Bool} (ht1 : K.O.dec (.cmp .eql b (.lit 0)) = .ok t1) (hn : ¬ t1 = true) : ¬ b.ev ρ = 0 := by
  have h1 : (b.ev ρ == 0) = t1 := dec_ev R ht1
  intro hc
  exact hn (h1 ▸ by simp [hc])
theorem sOp_ok (R : Rel K ρ h w) {E : Value → World → Prop} {o : BinOp} {t : TypeId} {a b : SE} {v : AV} (he : sOp? K.O o a b = .ok v) {Q : Value → World → Prop} (hq : Q (v.ev ρ) w) :
    wq K.P K.Ev E (binOp o t (.string (a.ev ρ)) (.string (b.ev ρ))) Q w := by
  unfold sOp? at he
  split at he
  · cases he
    simp only [AV.ev, bool_ev R] at hq
    simp only [binOp]
    rw [stringOp_eql]
    simpa [BE.ev] using hq
  · cases he
    simp only [AV.ev, bool_ev R] at hq
    simp only [binOp]
    rw [stringOp_neq]
    simpa [BE.ev] using hq
  · split at he
    · rename_i hd
      cases he
      have h1 : decide (((a.ev ρ ++ b.ev ρ).size : Int) ≤ 4611686018427387904) = true := dec_ev R hd
      have h2 := of_decide_eq_true h1
      rw [ByteArray.size_append] at h2
      simp only [binOp, Op.stringOp, wq_ite]
      rw [if_neg (by simp only [IntKind.max, IntKind.bits, IntKind.signed]; simp; omega)]
      exact hq
    · cases he
    · cases he
  · cases he
theorem sOp_in {O : Orc} {o : BinOp} {a b : SE} {v : AV} (he : sOp? O o a b = .ok v) : v.In U := by
  unfold sOp? at he
  split at he
  · cases he
    show BE.In U (O.bool _)
    unfold Orc.bool
    split
    · trivial
    · split <;> first | trivial | exact bfold_in trivial
  · cases he
    show BE.In U (O.bool _)
    unfold Orc.bool
    split
    · trivial
    · split <;> first | trivial | exact bfold_in trivial
  · split at he
    · cases he; trivial
    · cases he
    · cases he
  · cases he
theorem wq_binOp (R : Rel K ρ h w) {E : Value → World → Prop} {o : BinOp} {t : TypeId} {x y v : AV} (he : binOp? K.P K.O h o t x y = .ok v) {Q : Value → World → Prop} (hq : Q (v.ev ρ) w) :
    wq K.P K.Ev E (binOp o t (x.ev ρ) (y.ev ρ)) Q w := by
  unfold binOp? at he
  split at he
  ·
    rename_i k a k' b
    simp only [AV.ev]
    split at he
    ·
      simp only [bind_ok] at he
      obtain ⟨t1, ht1, he⟩ := he
      split at he
      · cases he
      · rename_i hn
        rw [pure_ok] at he; subst he
        simp only [AV.ev, int_ev R] at hq
        simp only [binOp, Op.shift, wq_ite]
        rw [if_neg (dec_neg R ht1 hn)]
        exact hq
    · simp only [bind_ok] at he
      obtain ⟨t1, ht1, he⟩ := he
      split at he
      · cases he
      · rename_i hn
        rw [pure_ok] at he; subst he
        simp only [AV.ev, int_ev R] at hq
        simp only [binOp, Op.shift, wq_ite]
        rw [if_neg (dec_neg R ht1 hn)]
        exact hq
    · split at he
      · rename_i hk; subst hk
        simp only [bind_ok] at he
        obtain ⟨t1, ht1, he⟩ := he
        split at he
        · cases he
        · rename_i hn
          rw [pure_ok] at he; subst he
          simp only [AV.ev, int_ev R] at hq
          simp only [binOp, Op.intDiv, wq_ite]
          rw [if_neg (by simp), if_neg (dec_zero R ht1 hn)]
          exact hq
      · cases he
    · split at he
      · rename_i hk; subst hk
        simp only [bind_ok] at he
        obtain ⟨t1, ht1, he⟩ := he
        split at he
        · cases he
        · rename_i hn
          rw [pure_ok] at he; subst he
          simp only [AV.ev, int_ev R] at hq
          simp only [binOp, Op.intDiv, wq_ite]
          rw [if_neg (by simp), if_neg (dec_zero R ht1 hn)]
          exact hq
      · cases he
    · split at he
      · rename_i hk; subst hk
        split at he
        · rename_i ho
          rw [pure_ok] at he; subst he
          simp only [AV.ev, int_ev R] at hq
          rw [binOp_int _ _ _ _ _ ho]; exact hq
        · split at he
          · rename_i ho
            rw [pure_ok] at he; subst he
            simp only [AV.ev] at hq
            rw [bool_ev R] at hq
            rw [binOp_cmp _ _ _ _ _ ho]; exact hq
          · cases he
      · cases he
  ·
    rename_i a b
    simp only [AV.ev]
    split at he
    · rw [pure_ok] at he; subst he; simp only [binOp]; rw [stringOp_eql]; exact hq
    · rw [pure_ok] at he; subst he; simp only [binOp]; rw [stringOp_neq]; exact hq
    · split at he
      · rename_i hle
        rw [pure_ok] at he; subst he
        simp only [binOp, Op.stringOp, wq_ite]
        rw [if_neg (by simp only [IntKind.max, IntKind.bits, IntKind.signed]; simp; omega)]
        exact hq
      · cases he
    · cases he
  · exact sOp_ok R he hq
  · exact sOp_ok R he hq
  · exact sOp_ok R he hq
  · rename_i hni hns hn1 hn2 hn3
    have notS : ∀ {b : BE}, eq? K.P K.O h 8 t x y = .ok b → (∃ s, x.ev ρ = .string s) → ¬ ∃ s, y.ev ρ = .string s := by
      intro b hb
      obtain ⟨s1, s2, s3, s4, s5, s6⟩ := eq?_shape (ρ := ρ) hb
      rintro ⟨s, e⟩
      rcases s3 with h3 | h3
      · rcases h3 with ⟨s', rfl⟩ | ⟨s', rfl⟩
        · rcases s5 (.inl ⟨_, rfl⟩) with ⟨s2, rfl⟩ | ⟨s2, rfl⟩
          · exact absurd rfl (hns _ _ rfl)
          · exact absurd rfl (hn3 _ _ rfl)
        · rcases s5 (.inr ⟨_, rfl⟩) with ⟨s2, rfl⟩ | ⟨s2, rfl⟩
          · exact absurd rfl (hn2 _ _ rfl)
          · exact absurd rfl (hn1 _ _ rfl)
      · exact absurd e (h3 _)
    split at he
    · simp only [bind_ok, pure_ok] at he
      obtain ⟨b, hb, rfl⟩ := he
      obtain ⟨s1, s2, s3, s4, s5, s6⟩ := eq?_shape (ρ := ρ) hb
      have hs := notS hb
      have hi : (∃ k n, x.ev ρ = .int k n) → ¬ ∃ k n, y.ev ρ = .int k n := by
        rintro ⟨k, n, e⟩
        rcases s4 with ⟨k', e', rfl⟩ | h4
        · obtain ⟨k2, e2, rfl⟩ := s6 ⟨_, _, rfl⟩
          exact absurd rfl (hni _ _ _ _ rfl)
        · exact absurd e (h4 _ _)
      rw [binOp_eql t hi hs s1 s2]
      simp only [wq_bind, wq_pure]
      exact wq_equal R hb hq
    · simp only [bind_ok, pure_ok] at he
      obtain ⟨b, hb, c, hc, rfl⟩ := he
      obtain ⟨s1, s2, s3, s4, s5, s6⟩ := eq?_shape (ρ := ρ) hb
      have hs := notS hb
      have hi : (∃ k n, x.ev ρ = .int k n) → ¬ ∃ k n, y.ev ρ = .int k n := by
        rintro ⟨k, n, e⟩
        rcases s4 with ⟨k', e', rfl⟩ | h4
        · obtain ⟨k2, e2, rfl⟩ := s6 ⟨_, _, rfl⟩
          exact absurd rfl (hni _ _ _ _ rfl)
        · exact absurd e (h4 _ _)
      rw [binOp_neq t hi hs s1 s2]
      simp only [wq_bind, wq_pure]
      refine wq_equal R hb ?_
      simp only [AV.ev, notB_ev hc] at hq
      exact hq
    · cases he
theorem binOp?_in (I : Ids K U h) {o : BinOp} {t : TypeId} {x y v : AV} (he : binOp? K.P K.O h o t x y = .ok v) (hx : x.In U) (hy : y.In U) : v.In U := by
  unfold binOp? at he
  split at he
  · split at he
    all_goals try (split at he)
    all_goals try (simp only [bind_ok] at he; obtain ⟨t1, ht1, he⟩ := he)
    all_goals try (split at he)
    all_goals try (split at he)
    all_goals first
      | (cases he; done)
      | (rw [pure_ok] at he; subst he; first | exact int_in I ⟨hx, hy⟩ | exact bool_in ⟨hx, hy⟩)
  · split at he
    all_goals try (split at he)
    all_goals first
      | (cases he; done)
      | (rw [pure_ok] at he; subst he; trivial)
  · exact sOp_in he
  · exact sOp_in he
  · exact sOp_in he
  · split at he
    · simp only [bind_ok, pure_ok] at he
      obtain ⟨b, hb, rfl⟩ := he
      exact eq?_in hb hx hy
    · simp only [bind_ok, pure_ok] at he
      obtain ⟨b, hb, c, hc, rfl⟩ := he
      exact notB_in hc (eq?_in hb hx hy)
    · cases he
theorem eqGuard_none {op : BinOp} (ho : ¬ (op = .eql ∨ op = .neq)) (t : TypeId) (x y : Operand) (a b : Value) : eqGuard op t x y a b = pure () := by
  cases op <;> simp_all [eqGuard]
theorem wq_eqGuardIn_nil {E : Value → World → Prop} {t : TypeId} {ms : Array (String × TypeId)} (hm : K.P.underlying t = some (.interface ms)) (hemp : ms.isEmpty = true) {Q : Bool → World → Prop} (hq : Q false w) :
    wq K.P K.Ev E (Op.eqGuardIn Op.maxDepth t .nilIface .nilIface) Q w := by
  obtain ⟨d, hd⟩ : ∃ d, Op.maxDepth = d + 1 := ⟨9999, rfl⟩
  rw [hd]
  simp only [Op.eqGuardIn, wq_bind, wq_underlying hm, wq_pure, hemp, Bool.not_true]
  exact hq
theorem eqGuard_const {op : BinOp} (ho : op = .eql ∨ op = .neq) (t : TypeId) (x y : Operand) (hc : (isConst? x || isConst? y) = true) : eqGuard op t x y .nilIface .nilIface = pure () := by
  rcases ho with rfl | rfl <;> cases x <;> cases y <;> first
    | rfl
    | exact absurd (show false = true from hc) (by simp)
theorem eqGuard_nil {op : BinOp} (ho : op = .eql ∨ op = .neq) (t : TypeId) (x y : Operand) (hc : ¬ (isConst? x || isConst? y) = true) : eqGuard op t x y .nilIface .nilIface = (do
    if ← Op.eqGuardIn Op.maxDepth t .nilIface .nilIface then unsupported (.noEntry "binop/eql: two nil values of an interface type with methods, neither of them the literal nil")) := by
  rcases ho with rfl | rfl <;> cases x <;> cases y <;> first
    | rfl
    | exact absurd rfl hc
theorem eqGuard_agg {op : BinOp} (ho : op = .eql ∨ op = .neq) (t : TypeId) (x y : Operand) (a b : Array Value) : eqGuard op t x y (.agg a) (.agg b) = (do
    if !(← program).eqGuardType (← program).depth t then return
    if ← Op.eqGuardIn Op.maxDepth t (.agg a) (.agg b) then unsupported (.noEntry "binop/eql: two nil values of an interface type with methods, in a part of a struct or an array")) := by
  rcases ho with rfl | rfl <;> rfl
theorem eqGuard_other {op : BinOp} (t : TypeId) (x y : Operand) {a b : Value} (h1 : a = .nilIface → b ≠ .nilIface) (h2 : (∃ c, a = .agg c) → ¬ ∃ c, b = .agg c) : eqGuard op t x y a b = pure () := by
  cases op <;> first
    | rfl
    | (cases a <;> first
        | rfl
        | (cases b <;> first
            | rfl
            | exact absurd rfl (h1 rfl)
            | exact absurd ⟨_, rfl⟩ (h2 ⟨_, rfl⟩)))
theorem wq_eqGuard {E : Value → World → Prop} {op : BinOp} {t : TypeId} {x y : Operand} {a b : AV} (he : eqGuard? K.P op t x y a b = .ok ()) {Q : Unit → World → Prop} (hq : Q () w) :
    wq K.P K.Ev E (eqGuard op t x y (a.ev ρ) (b.ev ρ)) Q w := by
  by_cases ho : op = .eql ∨ op = .neq
  · have hh : (match a, b with
        | .nilIface, .nilIface => if isConst? x || isConst? y then (Except.ok () : M Unit) else
          match K.P.underlying t with
          | some (.interface ms) => if ms.isEmpty then .ok () else .error " two nil values"
          | _ => .error " two nil values"
        | .agg _, .agg _ => if K.P.eqGuardType K.P.depth t then .error " structs with interface values" else .ok ()
        | .raw _, _ => .error " raw"
        | _, .raw _ => .error " raw"
        | .opq _, _ => .error " veiled"
        | _, .opq _ => .error " veiled"
        | _, _ => .ok ()) = .ok () := by rcases ho with rfl | rfl <;> exact he
    split at hh
    ·
      simp only [AV.ev]
      split at hh
      · rename_i hc
        rw [eqGuard_const ho t x y hc]; exact hq
      · rename_i hc
        rw [eqGuard_nil ho t x y hc]
        split at hh
        · rename_i ms hm
          split at hh
          · rename_i hemp
            simp only [wq_bind]
            exact wq_eqGuardIn_nil hm hemp (by simpa using hq)
          · cases hh
        · cases hh
    · simp only [AV.ev]
      rw [eqGuard_agg ho]
      split at hh
      · cases hh
      · rename_i hg
        simp only [wq_bind, wq_program, wq_ite]
        rw [if_pos (by simpa using hg)]
        exact hq
    all_goals try (cases hh; done)
    rename_i m1 m2 n1 n2 n3 n4
    rw [eqGuard_other]
    · exact hq
    · intro h1 h2
      cases a <;> simp only [AV.ev] at h1 <;> first
        | (cases h1; done)
        | skip
      all_goals cases b <;> simp only [AV.ev] at h2 <;> first
        | (cases h2; done)
        | simp_all
    · rintro ⟨c, h1⟩ ⟨c', h2⟩
      cases a <;> simp only [AV.ev] at h1 <;> first
        | (cases h1; done)
        | skip
      all_goals cases b <;> simp only [AV.ev] at h2 <;> first
        | (cases h2; done)
        | simp_all
  · rw [eqGuard_none ho]; exact hq
end
end Go.Proofs.YtojifefdokekpaaDoor.SX
