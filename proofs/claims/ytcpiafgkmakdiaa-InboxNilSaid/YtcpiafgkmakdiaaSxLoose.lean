/-
  Steps of a goroutine that does not hold: they leave the world as it is, and read places alone that are known beforehand.
-/
import Derived.Test.YtcpiafgkmakdiaaSxStep5
import Derived.Test.YtcpiafgkmakdiaaSxLooseD
import Derived.Test.YtcpiafgkmakdiaaSxTok3
import Derived.Conc.TokenWalk
set_option linter.unusedSectionVars false
set_option linter.unusedVariables false
set_option linter.unusedSimpArgs false
namespace Go.Proofs.Ytcpiafgkmakdiaa.SX
open Go.Conc

/-- Pieces of code that look, and do nothing else. -/
def Looks {α : Type} : Sem α → Prop
  | .pure _ => True
  | .load m _ k => m = .plain ∧ ∀ v, Looks (k v)
  | .program k => ∀ P, Looks (k P)
  | .shape _ k => ∀ s, Looks (k s)
  | .getObj _ k => ∀ o, Looks (k o)
  | .halt _ => True
  | _ => False

theorem looks_bind' {α β : Type} (x : Sem α) (f : α → Sem β) (hf : ∀ a, Looks (f a)) : Looks x → Looks (x.bind f) := by
  induction x with
  | pure a => intro _; exact hf a
  | load m a k ih => intro h; exact ⟨h.1, fun v => ih v (h.2 v)⟩
  | program k ih => intro h; exact fun P => ih P (h P)
  | shape r k ih => intro h; exact fun s => ih s (h s)
  | getObj r k ih => intro h; exact fun s => ih s (h s)
  | halt x => intro _; exact trivial
  | _ => intro h; exact h.elim

theorem looks_bind {α β : Type} {x : Sem α} {f : α → Sem β} (h : Looks x) (hf : ∀ a, Looks (f a)) : Looks (x >>= f) := looks_bind' x f hf h
theorem looks_pure {α : Type} (a : α) : Looks (pure a : Sem α) := trivial

theorem wq_looks {α : Type} {P : Program} {Ev : Event → Prop} {E : Value → World → Prop} {w : World} (hE : ∀ r b c, r < w.heap.size → ¬ Ev ⟨.obj r, b, c⟩) (m : Sem α) : Looks m → ∀ {Q : α → World → Prop}, wq P Ev E m Q w →
    wq P (fun e => ∃ a v, e = ⟨.cell a, false, false⟩ ∧ w.cell? a = some v ∧ Ev e) E m (fun a w' => w' = w ∧ Q a w') w := by
  induction m with
  | pure a => intro _ Q h; exact ⟨rfl, h⟩
  | load m a k ih =>
    intro hl Q h
    obtain ⟨rfl, hk⟩ := hl
    obtain ⟨v, hc, he, hw⟩ := h
    exact ⟨v, hc, ⟨a, v, rfl, hc, he⟩, ih v (hk v) hw⟩
  | program k ih => intro hl Q h; exact ih P (hl P) h
  | shape r k ih => intro hl Q h; exact ih _ (hl _) h
  | getObj r k ih => intro hl Q h; obtain ⟨o, h1, h2, h3, h4⟩ := h; exact absurd h3 (hE _ _ _ (heap_lt h1))
  | halt x =>
    intro _ Q h
    cases x with
    | panic v => exact h
    | _ => exact h
  | _ => intro hl; exact hl.elim

theorem looks_loadCells (a : Addr) : ∀ (n j : Nat) (acc : Array Value), Looks (loadCellsFrom a j n acc) := by
  intro n
  induction n with
  | zero => intro j acc; exact trivial
  | succ n ih => intro j acc; exact ⟨rfl, fun v => ih (j + 1) _⟩

theorem looks_stuck {α : Type} (s : String) : Looks (stuck s : Sem α) := trivial

theorem looks_byteOf (a : Addr) : Looks (byteOf a) := by
  unfold byteOf noView
  repeat' first
    | exact trivial
    | exact fun _ => trivial
    | refine looks_bind ?_ fun _ => ?_
    | split
    | dsimp only

theorem looks_op {ρ : Operand → Value} {o : Oper} (h : looseOp o = true) (hn : ∀ t, o.op = .nilCheck (.tmp t) → ∃ a, ρ (.tmp t) = .pointer (some a)) : Looks (execOp ρ o) := by
  unfold looseOp at h
  unfold execOp
  split at h
  · rename_i x e; rw [e]; exact trivial
  · rename_i x e; rw [e]; exact trivial
  · rename_i t x e
    rw [e]
    refine looks_bind ?_ fun _ => trivial
    unfold Instr.loadAt Instr.sureAddr loadVar isAgg underlying sizeOf typeInfo loadCells
    repeat' first
      | exact trivial
      | exact fun _ => trivial
      | exact ⟨rfl, fun _ => trivial⟩
      | exact looks_loadCells _ _ _ _
      | refine looks_bind ?_ fun _ => ?_
      | split
  · rename_i t x f e
    rw [e]
    refine looks_bind ?_ fun _ => trivial
    unfold Instr.fieldAt underlying Instr.sureAddr fieldPlace sizeOf typeInfo partAt
    repeat' first
      | exact trivial
      | exact fun _ => trivial
      | exact looks_byteOf _
      | refine looks_bind ?_ fun _ => ?_
      | split
  · rename_i t e
    obtain ⟨a, ha⟩ := hn t e
    rw [e]
    simp only [ha]
    exact trivial
  · rename_i f x y e
    rw [e]
    refine looks_bind ?_ fun _ => trivial
    exact trivial
  · rename_i c e
    rw [e]
    refine looks_bind ?_ fun _ => trivial
    unfold resolve Deferred.ofValue
    repeat' first
      | exact trivial
      | split
      | dsimp only
  · cases h

/-! ### Frames beside a world -/
/-- A configuration and a goroutine. -/
def LGam (P : Program) (ρ : Env) (c : ACfg) (cs : List Frame) (g : Goroutine) : Prop := ∃ fr frs, FrRel P ρ c.cur fr ∧ FrRels P ρ c.callers frs ∧ g = G fr (frs ++ cs)

/-- What is known of the world beforehand. -/
structure Known (O : Orc) (ρ : Env) (w : World) : Prop where
  bs : ∀ p ∈ O.bs, p.1.ev ρ = p.2
  is : ∀ p ∈ O.is, p.1.ev ρ = p.2.ev ρ
  mem : ∀ p ∈ O.mem, w.cell? (p.1.ev ρ) = some (p.2.ev ρ)

/-- The reads of known places. -/
def Reads (O : Orc) (ρ : Env) (e : Event) : Prop := ∃ p ∈ O.mem, e = ⟨.cell (p.1.ev ρ), false, false⟩

def EvL (O : Orc) (ρ : Env) (w : World) (e : Event) : Prop := (∃ m, e.loc = .mark m) ∨ (∃ a, e.loc = .cell a ∧ (w.heap.size ≤ a.block ∨ ∃ p ∈ O.mem, a = p.1.ev ρ)) ∨ ∃ r, e.loc = .obj r ∧ w.heap.size ≤ r
def KL (P : Program) (O : Orc) (ρ : Env) (w : World) : Ctx := ⟨P, O, fun n => w.heap.size ≤ n, EvL O ρ w, True, fun _ _ => False⟩

theorem KL_good (P : Program) (O : Orc) (ρ : Env) (w : World) : (KL P O ρ w).Good :=
  ⟨fun a _ h => .inr (.inl ⟨a, rfl, .inl h⟩), fun a _ h _ => .inr (.inl ⟨a, rfl, .inl h⟩), fun _ _ _ h => h.elim, fun m _ => .inl ⟨m, rfl⟩, .inl ⟨_, rfl⟩, fun _ m => .inl ⟨m, rfl⟩, fun r _ _ h => .inr (.inr ⟨r, rfl, h⟩)⟩

theorem cell_lt {w : World} {a : Addr} {v : Value} (hc : w.cell? a = some v) : a.block < w.heap.size := by
  rcases Nat.lt_or_ge a.block w.heap.size with h' | h'
  · exact h'
  · simp [World.cell?, Array.getElem?_eq_none h'] at hc

theorem KL_rel {P : Program} {O : Orc} {ρ : Env} {w : World} (k : Known O ρ w) : Rel (KL P O ρ w) ρ e0 w :=
  ⟨(fun i b hb => by cases hb), (fun i b hb => by cases hb), (fun i j b c hb => by cases hb), k.bs, k.is, fun p hp => ⟨fun h => absurd (cell_lt (k.mem p hp)) (Nat.not_lt.2 h), k.mem p hp, fun s => .inr (.inl ⟨_, rfl, .inr ⟨p, hp, rfl⟩⟩)⟩, (fun n hn => hn), (fun _ _ _ _ h => h.elim), fun _ _ h => h.elim⟩

theorem KL_ids {P : Program} {O : Orc} {ρ : Env} {w : World} {U : Nat → Prop} (h : O.In U) : Ids (KL P O ρ w) U e0 :=
  ⟨(fun i b hb => by cases hb), (fun i hi => by cases hi), List.nodup_nil, (fun n _ h => by cases h), h⟩

/-- What is asked of the program and the entries, whatever is known. -/
structure Sound (P : Program) (O : Orc) (ext : Ext) : Prop where
  facts : ∀ own Ev lock still, (⟨P, O, own, Ev, lock, still⟩ : Ctx).Facts
  ext : ∀ own Ev still, (⟨P, O, own, Ev, True, still⟩ : Ctx).Good → ExtOk ⟨P, O, own, Ev, True, still⟩ ext

section
variable {P : Program} {main : Bool} {O : Orc} {ext : Ext} {U : Nat → Prop} {ρ : Env}

theorem seen_sub {fn : FuncId} {a : Act} {o : Oper} {w : World} {Q : Event → Prop} (h : ∀ e ∈ (execOp a.eval o).events P w #[], Q e) : ∀ e ∈ listed P fn a o w, Q e := fun e he => h e (mem_listed he)

/-- One operation of a loose goroutine. -/
theorem loose_op (S : Sound P O ext) (hO : O.In U) {o : Oper} {n : AN} {h' : AH} {nt : Nat} {t : TT} {tm : Array Value} {ds : List Deferred} (T : TmpR ρ nt t tm) (ht : t.In U) (hl : looseOp o = true) (hn : nilOk t o = true) (he : op? P O ext e0 (evalA t) o = .ok (n, h')) {w : World} (k : Known O ρ w) :
    (∃ nx, (execOp (⟨tm, ds⟩ : Act).eval o).run P w = .ok nx w ∧ ∃ ρ', Agree U ρ ρ' ∧ n.is ρ' nx) ∧ (∀ e ∈ (execOp (⟨tm, ds⟩ : Act).eval o).events P w #[], Reads O ρ e) ∧ n.In U := by
  have N := op?_ok (K := KL P O ρ w) (KL_good P O ρ w) (S.facts _ _ _ _) (S.ext _ _ _ (KL_good P O ρ w)) (KL_rel k) (KL_ids hO) (evalA_in ht) he
  have hev : (⟨tm, ds⟩ : Act).eval = fun x => (evalA t x).ev ρ := funext fun x => evalA_ev T _ x
  have hlk : Looks (execOp (fun x => (evalA t x).ev ρ) o) := looks_op hl fun m hm => by
    unfold nilOk at hn
    rw [hm] at hn
    dsimp only at hn
    split at hn
    · rename_i a ha
      exact ⟨_, by show (t.get m).ev ρ = _; rw [ha]; rfl⟩
    · cases hn
  have hp : ∀ v, n ≠ .panic v := by
    intro v hv
    subst hv
    unfold op? at he
    unfold looseOp at hl
    generalize o.op = op at hl he
    cases op <;> simp at hl <;> dsimp only at he
    case defer c => split at he <;> cases he
    all_goals first
      | cases he
      | ((repeat' split at he) <;> first | cases he | (unfold valOp at he; split at he <;> cases he))
      | (unfold valOp at he; split at he <;> cases he)
  have W := wq_looks (w := w) (fun r b c hlt hx => by
    rcases hx with ⟨m, hm⟩ | ⟨a, ha, _⟩ | ⟨r', hr, hle⟩
    · cases hm
    · cases ha
    · cases hr
      exact absurd hlt (Nat.not_lt.2 hle)) _ hlk (N.run (E := fun _ _ => False) (Q := fun nx w' => After (KL P O ρ w) U ρ w h' (fun ρ' => n.is ρ' nx) w') (fun nx w' x => x) (fun v hv _ => absurd hv (hp v)))
  obtain ⟨run, evs⟩ := wq_run W
  rw [← hev] at run evs
  have hh : h' = e0 := by
    cases hq : quietOp o with
    | true => exact quiet_same hq he
    | false =>
      unfold looseOp at hl
      unfold quietOp at hq
      unfold op? at he
      generalize o.op = op at hl hq he
      cases op <;> simp at hl <;> simp at hq
      dsimp only at he
      split at he <;> cases he
      rfl
  subst hh
  refine ⟨?_, fun e hx => ?_, ?_⟩
  · have run' : ((execOp (⟨tm, ds⟩ : Act).eval o).run P w).goes (fun a w' => w' = w ∧ After (KL P O ρ w) U ρ w e0 (fun ρ' => n.is ρ' a) w') (fun _ _ => False) := run
    clear run
    generalize hr : (execOp (⟨tm, ds⟩ : Act).eval o).run P w = r at run'
    cases r with
    | ok nx w' =>
      obtain ⟨rfl, ρ', A, _, _, hi⟩ := run'
      exact ⟨nx, rfl, ρ', A, hi⟩
    | halt x w' => cases x <;> exact run'.elim
  · obtain ⟨a, v, rfl, hc, hv⟩ := evs e hx
    rcases hv with ⟨m, hm⟩ | ⟨a', ha, hv⟩ | ⟨r', hr, _⟩
    · cases hm
    · cases ha
      rcases hv with hv | ⟨p, hp, rfl⟩
      · exact absurd (cell_lt hc) (Nat.not_lt.2 hv)
      · exact ⟨p, hp, rfl⟩
    · cases hr
  · have hm := N.mem
    have hs : ∀ m, plus U e0.nb e0.nb m → U m := plus_none
    cases n with
    | value v => exact AV.In.mono hs _ hm
    | skip => trivial
    | enter f args => exact AV.Ins.mono hs _ hm
    | defer d => exact AD.In.mono hs hm
    | recover => trivial
    | panic v => exact AV.In.mono hs _ hm
end
end Go.Proofs.Ytcpiafgkmakdiaa.SX
