/-
  Closed data with other names for what is open: for loops. As closed data, and what it means.
-/
import Derived.Test.YtmnahfonnljobaaGreatDoorSxRuns
set_option linter.unusedSectionVars false
set_option linter.unusedVariables false
set_option linter.unusedSimpArgs false
namespace Go.Proofs.YtmnahfonnljobaaGreatDoor.SX

noncomputable section
/-- In a number's place a sum; in a block's place a block; in a veiled value's place a value. -/
structure Sub where
  is : List (Nat × IE) := []
  bs : List (Nat × Nat) := []
  vs : List (Nat × AV) := []

def Sub.i (s : Sub) (n : Nat) : IE :=
  match look (fun a b => Nat.beq a b) n s.is with
  | some e => e
  | none => .var n
def Sub.b (s : Sub) (n : Nat) : Nat :=
  match look (fun a b => Nat.beq a b) n s.bs with
  | some m => m
  | none => n

def Sub.v (s : Sub) (n : Nat) : AV :=
  match look (fun a b => Nat.beq a b) n s.vs with
  | some a => a
  | none => .opq n
/-- No value that stands for nothing. -/
def isUndef : AV → Bool
  | .tuple [] => true
  | _ => false
def Sub.full (s : Sub) : Bool := s.vs.all fun p => !isUndef p.2
def notOpq : AV → Bool
  | .opq _ => false
  | _ => true
/-- No veiled value from that number on. -/
def TT.inner (nt : Nat) : TT → (Nat → Nat) → Bool
  | .leaf, _ => true
  | .node v l r, φ => (Nat.ble (φ 0 + 1) nt || notOpq v) && (r.inner nt (fun k => φ (2 * k + 1)) && l.inner nt (fun k => φ (2 * k + 2)))
def AFrame.rOk (s : Sub) (fr : AFrame) : Bool := s.full || fr.tmps.inner fr.nt (fun k => k)

def IE.ren (s : Sub) : IE → IE
  | .lit n => .lit n
  | .var i => s.i i
  | .op o k a b => .op o k (a.ren s) (b.ren s)
  | .conv k a => .conv k (a.ren s)
  | .plus a b => .plus (a.ren s) (b.ren s)
  | .times a b => .times (a.ren s) (b.ren s)
  | .tn a => .tn (a.ren s)
def BE.ren (s : Sub) : BE → BE
  | .lit b => .lit b
  | .var i => .var i
  | .cmp o a b => .cmp o (a.ren s) (b.ren s)
def BR.ren (s : Sub) : BR → BR
  | .glob g => .glob g
  | .dyn i => .dyn (s.b i)
def AA.ren (s : Sub) (a : AA) : AA := ⟨a.blk.ren s, a.off.ren s⟩
mutual
def AV.ren (s : Sub) : AV → AV
  | .bool b => .bool (b.ren s)
  | .int k e => .int k (e.ren s)
  | .str t => .str t
  | .ptr a => .ptr (a.map (AA.ren s))
  | .slice a l c => .slice (a.map (AA.ren s)) (l.ren s) (c.ren s)
  | .map r => .map (r.map (BR.ren s))
  | .chan r => .chan (r.map (BR.ren s))
  | .func f x y => .func f (AV.rens s x) (AV.rens s y)
  | .nilFunc => .nilFunc
  | .iface t v => .iface t (v.ren s)
  | .nilIface => .nilIface
  | .agg x => .agg (AV.rens s x)
  | .tuple x => .tuple (AV.rens s x)
  | .opq i => s.v i
  | .raw v => .raw v
def AV.rens (s : Sub) : List AV → List AV
  | [] => []
  | a :: x => a.ren s :: AV.rens s x
end
def TT.ren (s : Sub) : TT → TT
  | .leaf => .leaf
  | .node v l r => .node (v.ren s) (l.ren s) (r.ren s)
def ATarget.ren (s : Sub) : ATarget → ATarget
  | .fn f c => .fn f (AV.rens s c)
  | .builtin b a t c => .builtin b a t c
def AD.ren (s : Sub) (d : AD) : AD := ⟨d.target.ren s, AV.rens s d.args⟩
def AMode.ren (s : Sub) : AMode → AMode
  | .run => .run
  | .returning => .returning
  | .panicking chain => .panicking (chain.map fun x => (x.1.ren s, x.2))
def AFrame.ren (s : Sub) (fr : AFrame) : AFrame :=
  match fr with
  | ⟨fn, nt, tmps, todo, defers, mode, kind⟩ => ⟨fn, nt, tmps.ren s, todo, defers.map (AD.ren s), mode.ren s, kind⟩
def ABlk.ren (s : Sub) : ABlk → ABlk
  | .cells cs e => .cells (AV.rens s cs) e
  | .row cs e c => .row (AV.rens s cs) e (c.ren s)
  | .lent cs e l => .lent (AV.rens s cs) e l
  | .map es => .map (es.map fun p => (p.1.ren s, p.2.ren s))
  | .chan => .chan
  | .vmap _ _ _ _ => .row [.nilFunc] 0 (.lit 0)
  | .pre lk k n fs ws cs e c => match s.v k with
    | .opq k' => .pre lk k' (n.ren s) (fs.map fun p => (p.1.ren s, p.2.ren s)) (ws.map fun p => (p.1.ren s, p.2.ren s)) (AV.rens s cs) e (c.ren s)
    | _ => .row [.nilFunc] e (.lit 0)
def renH (s : Sub) (l : List (Nat × ABlk)) : List (Nat × ABlk) := l.map fun p => (s.b p.1, p.2.ren s)
end

noncomputable def Env.sub (s : Sub) (ρ : Env) : Env := { i := fun n => (s.i n).ev ρ, p := ρ.p, v := fun n => (s.v n).ev ρ, b := fun n => ρ.b (s.b n), bt := ρ.bt }

section
variable {s : Sub} {ρ : Env}
theorem IE.ev_ren : ∀ (e : IE), (e.ren s).ev ρ = e.ev (ρ.sub s) := by
  intro e
  induction e with
  | lit n => rfl
  | var i => rfl
  | op o k a b iha ihb => simp only [IE.ren, IE.ev, iha, ihb]
  | conv k a ih => simp only [IE.ren, IE.ev, ih]
  | plus a b iha ihb => simp only [IE.ren, IE.ev, iha, ihb]
  | times a b iha ihb => simp only [IE.ren, IE.ev, iha, ihb]
  | tn a ih => simp only [IE.ren, IE.ev, ih]
theorem BE.ev_ren (e : BE) : (e.ren s).ev ρ = e.ev (ρ.sub s) := by
  cases e <;> simp only [BE.ren, BE.ev, IE.ev_ren] <;> rfl
theorem BR.ev_ren (e : BR) : (e.ren s).ev ρ = e.ev (ρ.sub s) := by cases e <;> rfl
theorem AA.ev_ren (a : AA) : (a.ren s).ev ρ = a.ev (ρ.sub s) := by simp only [AA.ren, AA.ev, BR.ev_ren, IE.ev_ren]
theorem opt_ren {α β : Type} {f : α → α} {g h : α → β} (e : ∀ a, g (f a) = h a) (o : Option α) : (o.map f).map g = o.map h := by cases o <;> simp [e]
mutual
theorem AV.ev_ren : ∀ (a : AV), (a.ren s).ev ρ = a.ev (ρ.sub s)
  | .bool b => by simp only [AV.ren, AV.ev, BE.ev_ren]
  | .int k e => by simp only [AV.ren, AV.ev, IE.ev_ren]
  | .str t => by simp only [AV.ren, AV.ev]
  | .ptr a => by simp only [AV.ren, AV.ev]; rw [opt_ren AA.ev_ren]
  | .slice a l c => by simp only [AV.ren, AV.ev, IE.ev_ren]; rw [opt_ren AA.ev_ren]
  | .map r => by simp only [AV.ren, AV.ev]; rw [opt_ren BR.ev_ren]
  | .chan r => by simp only [AV.ren, AV.ev]; rw [opt_ren BR.ev_ren]
  | .func f x y => by simp only [AV.ren, AV.ev, AV.evs_ren x, AV.evs_ren y]
  | .nilFunc => by simp only [AV.ren, AV.ev]
  | .iface t v => by simp only [AV.ren, AV.ev, AV.ev_ren v]
  | .nilIface => by simp only [AV.ren, AV.ev]
  | .agg x => by simp only [AV.ren, AV.ev, AV.evs_ren x]
  | .tuple x => by simp only [AV.ren, AV.ev, AV.evs_ren x]
  | .opq i => by simp only [AV.ren, AV.ev]; rfl
  | .raw v => by simp only [AV.ren, AV.ev]
theorem AV.evs_ren : ∀ (l : List AV), AV.evs ρ (AV.rens s l) = AV.evs (ρ.sub s) l
  | [] => rfl
  | a :: l => by simp only [AV.rens, AV.evs, AV.ev_ren a, AV.evs_ren l]
end

theorem full_v (h : s.full = true) (n : Nat) : s.v n ≠ undefA := by
  unfold Sub.v
  split
  · rename_i a ha
    obtain ⟨x, hx, _⟩ := look_some ha
    have := List.all_eq_true.1 h _ hx
    intro e
    simp only [e] at this
    simp [isUndef, undefA] at this
  · intro e; cases e
theorem ren_undef' {a : AV} (hn : notOpq a = true) (h : a.ren s = undefA) : a = undefA := by
  cases a with
  | tuple x =>
    cases x with
    | nil => rfl
    | cons a l => simp [AV.ren, AV.rens, undefA] at h
  | opq i => cases hn
  | _ => simp [AV.ren, undefA] at h
theorem ren_undef (hf : s.full = true) {a : AV} (h : a.ren s = undefA) : a = undefA := by
  cases a with
  | tuple x =>
    cases x with
    | nil => rfl
    | cons a l => simp [AV.ren, AV.rens, undefA] at h
  | opq i => simp only [AV.ren] at h; exact absurd h (full_v hf i)
  | _ => simp [AV.ren, undefA] at h
theorem undef_ren : (undefA.ren s) = undefA := by simp [undefA, AV.ren, AV.rens]

theorem TT.get_ren : ∀ (t : TT) (n : Nat), (t.ren s).get n = (t.get n).ren s := by
  intro t
  induction t with
  | leaf => intro n; exact undef_ren.symm
  | node v l r ihl ihr =>
    intro n
    cases n with
    | zero => rfl
    | succ m =>
      show (TT.node (v.ren s) (l.ren s) (r.ren s)).get (m + 1) = _
      rw [TT.get_node_succ, TT.get_node_succ]
      split
      · exact ihr _
      · exact ihl _

theorem inner_get {nt : Nat} : ∀ {t : TT} {φ : Nat → Nat}, t.inner nt φ = true → ∀ n, nt ≤ φ n → notOpq (t.get n) = true := by
  intro t
  induction t with
  | leaf => intro φ _ n _; rfl
  | node v l r ihl ihr =>
    intro φ h n hn
    simp only [TT.inner, Bool.and_eq_true, Bool.or_eq_true] at h
    obtain ⟨h1, h2, h3⟩ := h
    cases n with
    | zero =>
      rcases h1 with h1 | h1
      · have := Nat.le_of_ble_eq_true h1
        omega
      · exact h1
    | succ m =>
      rw [TT.get_node_succ]
      split
      · rename_i hm
        exact ihr h2 (m / 2) (by rw [show 2 * (m / 2) + 1 = m + 1 by omega]; exact hn)
      · rename_i hm
        exact ihl h3 (m / 2) (by rw [show 2 * (m / 2) + 2 = m + 1 by omega]; exact hn)

theorem TmpR.ren {nt : Nat} {t : TT} (hf : s.full = true ∨ t.inner nt (fun k => k) = true) {tmps : Array Value} (h : TmpR ρ nt (t.ren s) tmps) : TmpR (ρ.sub s) nt t tmps :=
  ⟨h.size, h.le, fun n hn => by rw [h.get n hn, TT.get_ren, AV.ev_ren], fun n hn => by
    have h1 := h.out n hn
    rw [TT.get_ren] at h1
    rcases hf with hf | hf
    · exact ren_undef hf h1
    · exact ren_undef' (inner_get hf n hn) h1⟩
theorem AD.ev_ren (d : AD) : (d.ren s).ev ρ = d.ev (ρ.sub s) := by
  obtain ⟨t, a⟩ := d
  simp only [AD.ren, AD.ev, AV.evs_ren]
  cases t <;> simp only [ATarget.ren, ATarget.ev, AV.evs_ren]
theorem AMode.ev_ren (m : AMode) : (m.ren s).ev ρ = m.ev (ρ.sub s) := by
  cases m with
  | panicking chain => simp [AMode.ren, AMode.ev, AV.ev_ren]
  | _ => rfl

theorem FrRel.ren {P : Program} {fr : AFrame} (hf : fr.rOk s = true) {g : Frame} (h : FrRel P ρ (fr.ren s) g) : FrRel P (ρ.sub s) fr g := by
  obtain ⟨fn, nt, tmps, todo, defers, mode, kind⟩ := fr
  obtain ⟨tm, td, h1, h3⟩ := h
  have hf' : s.full = true ∨ tmps.inner nt (fun k => k) = true := by
    have := hf
    unfold AFrame.rOk at this
    rw [Bool.or_eq_true] at this
    exact this
  refine ⟨tm, td, ⟨h1.tmps.ren hf', h1.kind, fun e => h1.todo (by
    dsimp only at e
    subst e
    rfl), h1.fn⟩, ?_⟩
  rw [h3]
  unfold frameOf AFrame.ren
  dsimp only
  rw [AMode.ev_ren]
  have : (defers.map (AD.ren s)).map (AD.ev ρ) = defers.map (AD.ev (ρ.sub s)) := by simp [AD.ev_ren]
  have e1 : aB ρ kind tm (defers.map (AD.ren s)) = aB (ρ.sub s) kind tm defers := by
    unfold aB; rw [this]; rfl
  rw [e1]
  rfl
theorem FrRels.ren {P : Program} : ∀ {l : List AFrame} {frs : List Frame}, l.all (AFrame.rOk s) = true → FrRels P ρ (l.map (AFrame.ren s)) frs → FrRels P (ρ.sub s) l frs
  | [], [], _, _ => trivial
  | [], _ :: _, _, h => h.elim
  | _ :: _, [], _, h => h.elim
  | _ :: _, _ :: _, hf, h => by
    simp only [List.all_cons, Bool.and_eq_true] at hf
    exact ⟨h.1.ren hf.1, FrRels.ren hf.2 h.2⟩

theorem isChan_ren (b : ABlk) : (b.ren s).isChan = b.isChan := by
  cases b <;> first | rfl | (unfold ABlk.ren; dsimp only; split <;> rfl)
theorem isLent_ren (b : ABlk) (n : Nat) : (b.ren s).isLent n = b.isLent n := by
  cases b <;> first | rfl | (unfold ABlk.ren; dsimp only; split <;> rfl)
theorem elem_ren (b : ABlk) : (b.ren s).elem = b.elem := by
  cases b <;> first | rfl | (unfold ABlk.ren; dsimp only; split <;> rfl)
theorem lentAt_ren {P : Program} {b : ABlk} {n : Nat} (h : (b.ren s).lentAt P ρ n) : b.lentAt P (ρ.sub s) n := by
  cases b with
  | pre lk k m fs ws cs e c =>
    unfold ABlk.ren at h
    dsimp only at h
    split at h
    · simp only [ABlk.lentAt, IE.ev_ren] at h ⊢; exact h
    · cases h
  | _ => exact h
theorem wrote_ren (l : List Value) : ∀ (ws : List (IE × AV)), wrote ρ l (ws.map fun p => (p.1.ren s, p.2.ren s)) = wrote (ρ.sub s) l ws
  | [] => rfl
  | p :: ws => by
    show (wrote ρ l (ws.map fun p => (p.1.ren s, p.2.ren s))).set _ _ = (wrote (ρ.sub s) l ws).set _ _
    rw [wrote_ren l ws, IE.ev_ren, AV.ev_ren]
theorem is_ren {P : Program} {b : ABlk} {o : Obj} (h : (b.ren s).is P ρ o) : b.is P (ρ.sub s) o := by
  rcases h with ⟨arr, e, hf⟩ | h
  · refine .inl ⟨arr, by rw [e, elem_ren], ?_⟩
    cases b with
    | cells cs e => simp only [ABlk.ren, ABlk.fits, AV.evs_ren] at hf ⊢; exact hf
    | lent cs e l => simp only [ABlk.ren, ABlk.fits, AV.evs_ren] at hf ⊢; exact hf
    | row cs e c => simp only [ABlk.ren, ABlk.fits, AV.evs_ren, IE.ev_ren] at hf ⊢; exact hf
    | map es => exact hf.elim
    | chan => exact hf.elim
    | vmap k n fs ws =>
      obtain ⟨rest, i, h1, h2, h3⟩ := hf
      have e1 := congrArg List.length h1
      have e0 : arr.size = 0 := by rw [h3]; simp [IE.ev]
      simp [AV.evs, e0] at e1
    | pre lk k n fs ws cs e c =>
      unfold ABlk.ren at hf
      dsimp only at hf
      split at hf
      · rename_i k' hk
        obtain ⟨pre, rest, i, h1, h2, h3⟩ := hf
        refine ⟨pre, rest, i, ⟨?_, h1.info, by rw [← IE.ev_ren]; exact h1.size, fun p hp => ?_, fun p hp => ?_⟩, by rw [← wrote_ren, ← AV.evs_ren]; exact h2, by rw [← IE.ev_ren]; exact h3⟩
        · show (s.v k).ev ρ = _
          rw [hk]; exact h1.val
        · have := h1.fs _ (List.mem_map.2 ⟨p, hp, rfl⟩)
          rw [IE.ev_ren, AV.ev_ren] at this; exact this
        · have := h1.ws _ (List.mem_map.2 ⟨p, hp, rfl⟩)
          rw [IE.ev_ren] at this; exact this
      · obtain ⟨rest, i, h1, h2, h3⟩ := hf
        have e1 := congrArg List.length h1
        have e0 : arr.size = 0 := by rw [h3]; simp [IE.ev]
        simp [AV.evs, e0] at e1
  · refine .inr ?_
    cases b with
    | map es =>
      obtain ⟨arr, clk, h1, h2⟩ := h
      refine ⟨arr, clk, h1, h2.trans ?_⟩
      simp [AV.ev_ren]
    | chan => exact h
    | pre lk k n fs ws cs e c =>
      unfold ABlk.ren at h
      dsimp only at h
      split at h <;> exact h.elim
    | _ => exact h.elim

theorem inj_of_nodup {α β : Type} {f : α → β} : ∀ {l : List α}, (l.map f).Nodup → ∀ {a b : α}, a ∈ l → b ∈ l → f a = f b → a = b
  | x :: l, h, a, b, ha, hb, e => by
    rw [List.map_cons, List.nodup_cons] at h
    rcases List.mem_cons.1 ha with e1 | h1
    · rcases List.mem_cons.1 hb with e2 | h2
      · rw [e1, e2]
      · exact absurd (List.mem_map.2 ⟨b, h2, by rw [← e, e1]⟩) h.1
    · rcases List.mem_cons.1 hb with e2 | h2
      · exact absurd (List.mem_map.2 ⟨a, h1, by rw [e, e2]⟩) h.1
      · exact inj_of_nodup h.2 h1 h2 e

/-- What is known beforehand, in a world. -/
structure FactsAt (K : Ctx) (O : Orc) (ρ : Env) (w : World) : Prop where
  bs : ∀ p ∈ O.bs, p.1.ev ρ = p.2
  is : ∀ p ∈ O.is, p.1.ev ρ = p.2.ev ρ
  mem : ∀ p ∈ O.mem, ¬ K.own (p.1.ev ρ).block ∧ w.cell? (p.1.ev ρ) = some (p.2.ev ρ) ∧ ∀ s, K.Ev ⟨.cell (p.1.ev ρ), false, s⟩

def Ctx.with (K : Ctx) (O : Orc) : Ctx := { K with O := O }

theorem Rel.change {K : Ctx} {ρ : Env} {h : AH} {w : World} (R : Rel K ρ h w) {O : Orc} (F : FactsAt K O ρ w) : Rel (K.with O) ρ h w :=
  ⟨R.blk, R.own', R.inj, F.bs, F.is, F.mem, R.room, R.lent, R.low⟩

theorem Rel.ren {K : Ctx} {hp : List (Nat × ABlk)} {nb lim nb' lim' : Nat} {w : World} (R : Rel K ρ ⟨renH s hp, nb', lim'⟩ w) (hn : (keys (renH s hp)).Nodup) {O : Orc} (F : FactsAt K O (ρ.sub s) w) : Rel (K.with O) (ρ.sub s) ⟨hp, nb, lim⟩ w := by
  have fnd : ∀ {i b}, findB i hp = some b → findB (s.b i) (renH s hp) = some (b.ren s) := fun {i b} h => mem_find hn (List.mem_map.2 ⟨(i, b), find_mem h, rfl⟩)
  refine ⟨fun i b hb => ?_, fun i b hb => ?_, fun i j b c hb hc e => ?_, F.bs, F.is, F.mem, R.room, fun i b hb n hs => ?_, R.low⟩
  · obtain ⟨o, h1, h2⟩ := R.blk _ _ (fnd hb)
    exact ⟨o, h1, is_ren h2⟩
  · have := R.own' _ _ (fnd hb)
    rw [isChan_ren] at this
    exact this
  · have h1 := R.inj _ _ _ _ (fnd hb) (fnd hc) e
    have hk : keys (renH s hp) = (keys hp).map s.b := by simp [keys, renH]
    rw [hk] at hn
    exact inj_of_nodup hn (findB_key hb) (findB_key hc) h1
  · have := R.lent _ _ (fnd hb) n hs
    exact lentAt_ren this
end
end Go.Proofs.YtmnahfonnljobaaGreatDoor.SX
/-
  Pieces of runs whose end is the start of another piece under other names.
-/
set_option linter.unusedSectionVars false
set_option linter.unusedVariables false
set_option linter.unusedSimpArgs false
namespace Go.Proofs.YtmnahfonnljobaaGreatDoor.SX
open Go.Conc

noncomputable section
/-! ### Numbers below -/
def IE.low (n : Nat) : IE → Bool
  | .lit _ => true
  | .var i => Nat.ble (i + 1) n
  | .op _ _ a b => a.low n && b.low n
  | .conv _ a => a.low n
  | .plus a b => a.low n && b.low n
  | .times a b => a.low n && b.low n
  | .tn a => a.low n
def BE.low (n : Nat) : BE → Bool
  | .cmp _ a b => a.low n && b.low n
  | _ => true
def BR.low (n : Nat) : BR → Bool
  | .glob _ => true
  | .dyn i => Nat.ble (i + 1) n
def AA.low (n : Nat) (a : AA) : Bool := a.blk.low n && a.off.low n
def optLow {α : Type} (f : α → Bool) : Option α → Bool
  | none => true
  | some a => f a
mutual
def AV.low (n : Nat) : AV → Bool
  | .bool b => b.low n
  | .int _ e => e.low n
  | .ptr a => optLow (AA.low n) a
  | .slice a l c => optLow (AA.low n) a && l.low n && c.low n
  | .map r => optLow (BR.low n) r
  | .chan r => optLow (BR.low n) r
  | .func _ x y => AV.lows n x && AV.lows n y
  | .iface _ v => v.low n
  | .agg x => AV.lows n x
  | .tuple x => AV.lows n x
  | .str _ => true
  | .nilFunc => true
  | .nilIface => true
  | .opq _ => true
  | .raw _ => true
def AV.lows (n : Nat) : List AV → Bool
  | [] => true
  | a :: x => a.low n && AV.lows n x
end
def TT.low (n : Nat) : TT → Bool
  | .leaf => true
  | .node v l r => v.low n && l.low n && r.low n
def AD.low (n : Nat) (d : AD) : Bool :=
  match d with
  | ⟨.fn _ c, args⟩ => AV.lows n c && AV.lows n args
  | ⟨.builtin _ _ _ _, args⟩ => AV.lows n args
def AMode.low (n : Nat) : AMode → Bool
  | .panicking chain => chain.all fun x => x.1.low n
  | _ => true
def AFrame.low (n : Nat) (fr : AFrame) : Bool := fr.tmps.low n && fr.defers.all (AD.low n) && fr.mode.low n
def ABlk.low (n : Nat) : ABlk → Bool
  | .cells cs _ => AV.lows n cs
  | .row cs _ c => AV.lows n cs && c.low n
  | .lent cs _ _ => AV.lows n cs
  | .map es => es.all fun p => p.1.low n && p.2.low n
  | .chan => true
  | .vmap _ m fs ws => m.low n && fs.all (fun p => p.1.low n && optLow (AV.low n) p.2) && ws.all fun p => p.1.low n && p.2.low n
  | .pre _ _ m fs ws cs _ c => m.low n && fs.all (fun p => p.1.low n && p.2.low n) && ws.all (fun p => p.1.low n && p.2.low n) && AV.lows n cs && c.low n
def nodupB : List Nat → Bool
  | [] => true
  | a :: l => l.all (fun b => !Nat.beq a b) && nodupB l
def cfgLow (n : Nat) (c : ACfg) : Bool :=
  c.cur.low n && c.callers.all (AFrame.low n) && c.h.hp.all (fun p => Nat.ble (p.1 + 1) n && p.2.low n) && nodupB (c.h.hp.map (·.1))
def Orc.low (n : Nat) (O : Orc) : Bool :=
  O.bs.all (fun p => p.1.low n) && O.is.all (fun p => p.1.low n && p.2.low n) && O.mem.all (fun p => p.1.low n && p.2.low n)

/-- The blocks of these numbers, in this order. -/
def pickB (hp : List (Nat × ABlk)) : List Nat → Option (List (Nat × ABlk))
  | [] => some []
  | k :: ks => match findB k hp, pickB hp ks with
    | some b, some l => some ((k, b) :: l)
    | _, _ => none

/-- So many steps, then these blocks in this order. -/
def chunkTo? (P : Program) (O : Orc) (ext : Ext) (sum : Sums) (f n : Nat) (ks : List Nat) (c : ACfg) : M ACfg :=
  match steps? P O ext sum f n c with
  | .ok (.inl ⟨cur, callers, ⟨hp, nb, lim⟩⟩) => match nodupB ks, pickB hp ks with
    | true, some hp => .ok ⟨cur, callers, ⟨hp, nb, lim⟩⟩
    | _, _ => .error "chunk blocks"
  | .ok (.inr _) => .error "chunk it ends"
  | .error e => .error e
end

section
variable {n : Nat}
abbrev Below (n : Nat) : Nat → Prop := fun m => m < n
theorem IE.low_in : ∀ {e : IE}, e.low n = true → e.In (Below n) := by
  intro e
  induction e with
  | lit _ => intro _; trivial
  | var i => intro h; exact Nat.le_of_ble_eq_true h
  | op o k a b iha ihb => intro h; simp only [IE.low, Bool.and_eq_true] at h; exact ⟨iha h.1, ihb h.2⟩
  | conv k a ih => exact ih
  | plus a b iha ihb => intro h; simp only [IE.low, Bool.and_eq_true] at h; exact ⟨iha h.1, ihb h.2⟩
  | times a b iha ihb => intro h; simp only [IE.low, Bool.and_eq_true] at h; exact ⟨iha h.1, ihb h.2⟩
  | tn a ih => exact ih
theorem BE.low_in {e : BE} (h : e.low n = true) : e.In (Below n) := by
  cases e with
  | cmp o a b => simp only [BE.low, Bool.and_eq_true] at h; exact ⟨IE.low_in h.1, IE.low_in h.2⟩
  | _ => trivial
theorem BR.low_in {e : BR} (h : e.low n = true) : e.In (Below n) := by
  cases e with
  | glob g => trivial
  | dyn i => exact Nat.le_of_ble_eq_true h
theorem AA.low_in {a : AA} (h : a.low n = true) : a.In (Below n) := by
  simp only [AA.low, Bool.and_eq_true] at h; exact ⟨BR.low_in h.1, IE.low_in h.2⟩
theorem optLow_in {α : Type} {f : α → Bool} {g : α → Prop} (hf : ∀ {a}, f a = true → g a) : ∀ {o : Option α}, optLow f o = true → optIn g o
  | none, _ => trivial
  | some _, h => hf h
mutual
theorem AV.low_in : ∀ (a : AV), a.low n = true → a.In (Below n)
  | .bool b, h => by simp only [AV.low] at h; exact BE.low_in h
  | .int _ e, h => by simp only [AV.low] at h; exact IE.low_in h
  | .ptr a, h => by simp only [AV.low] at h; exact optLow_in AA.low_in h
  | .slice a l c, h => by simp only [AV.low, Bool.and_eq_true] at h; exact ⟨optLow_in AA.low_in h.1.1, IE.low_in h.1.2, IE.low_in h.2⟩
  | .map r, h => by simp only [AV.low] at h; exact optLow_in BR.low_in h
  | .chan r, h => by simp only [AV.low] at h; exact optLow_in BR.low_in h
  | .func _ x y, h => by simp only [AV.low, Bool.and_eq_true] at h; exact ⟨AV.lows_in x h.1, AV.lows_in y h.2⟩
  | .iface _ v, h => by simp only [AV.low] at h; exact AV.low_in v h
  | .agg x, h => by simp only [AV.low] at h; exact AV.lows_in x h
  | .tuple x, h => by simp only [AV.low] at h; exact AV.lows_in x h
  | .str _, _ => trivial
  | .nilFunc, _ => trivial
  | .nilIface, _ => trivial
  | .opq _, _ => trivial
  | .raw _, _ => trivial
theorem AV.lows_in : ∀ (l : List AV), AV.lows n l = true → AV.Ins (Below n) l
  | [], _ => trivial
  | a :: x, h => by simp only [AV.lows, Bool.and_eq_true] at h; exact ⟨AV.low_in a h.1, AV.lows_in x h.2⟩
end
theorem TT.low_in : ∀ {t : TT}, t.low n = true → t.In (Below n) := by
  intro t
  induction t with
  | leaf => intro _ m; show undefA.In _; simp [undefA, AV.In, AV.Ins]
  | node v l r ihl ihr =>
    intro h m
    simp only [TT.low, Bool.and_eq_true] at h
    cases m with
    | zero => exact AV.low_in _ h.1.1
    | succ m =>
      rw [TT.get_node_succ]
      split
      · exact ihr h.2 _
      · exact ihl h.1.2 _
theorem AD.low_in {d : AD} (h : d.low n = true) : d.In (Below n) := by
  obtain ⟨t, a⟩ := d
  cases t with
  | fn f c => simp only [AD.low, Bool.and_eq_true] at h; exact ⟨AV.lows_in _ h.1, AV.lows_in _ h.2⟩
  | builtin b x t c => exact ⟨trivial, AV.lows_in _ h⟩
theorem AFrame.low_in {fr : AFrame} (h : fr.low n = true) : fr.In (Below n) := by
  simp only [AFrame.low, Bool.and_eq_true] at h
  refine ⟨TT.low_in h.1.1, fun d hd => AD.low_in (List.all_eq_true.1 h.1.2 d hd), ?_⟩
  have h2 := h.2
  cases e : fr.mode with
  | panicking chain =>
    rw [e] at h2
    exact fun x hx => AV.low_in _ (List.all_eq_true.1 h2 x hx)
  | _ => trivial
theorem ABlk.low_in {b : ABlk} (h : b.low n = true) : b.In (Below n) := by
  cases b with
  | cells cs e => exact AV.lows_in _ h
  | row cs e c => simp only [ABlk.low, Bool.and_eq_true] at h; exact ⟨AV.lows_in _ h.1, IE.low_in h.2⟩
  | lent cs e l => exact AV.lows_in _ h
  | map es =>
    intro p hp
    have := List.all_eq_true.1 h p hp
    simp only [Bool.and_eq_true] at this
    exact ⟨AV.low_in _ this.1, AV.low_in _ this.2⟩
  | chan => trivial
  | vmap s m fs ws =>
    simp only [ABlk.low, Bool.and_eq_true] at h
    obtain ⟨⟨h1, h2⟩, h3⟩ := h
    refine ⟨IE.low_in h1, fun p hp => ?_, fun p hp => ?_⟩
    · have := List.all_eq_true.1 h2 p hp
      simp only [Bool.and_eq_true] at this
      exact ⟨AA.low_in this.1, optLow_in (fun h => AV.low_in _ h) this.2⟩
    · have := List.all_eq_true.1 h3 p hp
      simp only [Bool.and_eq_true] at this
      exact ⟨AV.low_in _ this.1, AV.low_in _ this.2⟩
  | pre lk s m fs ws cs e c =>
    simp only [ABlk.low, Bool.and_eq_true] at h
    obtain ⟨⟨⟨⟨h1, h2⟩, h3⟩, h4⟩, h5⟩ := h
    have two : ∀ {l : List (IE × AV)}, (l.all fun p => p.1.low n && p.2.low n) = true → ∀ p ∈ l, p.1.In (Below n) ∧ p.2.In (Below n) := fun h p hp => by
      have := List.all_eq_true.1 h p hp
      simp only [Bool.and_eq_true] at this
      exact ⟨IE.low_in this.1, AV.low_in _ this.2⟩
    exact ⟨IE.low_in h1, two h2, two h3, AV.lows_in _ h4, IE.low_in h5⟩
theorem nodupB_ok : ∀ {l : List Nat}, nodupB l = true → l.Nodup
  | [], _ => List.nodup_nil
  | a :: l, h => by
    simp only [nodupB, Bool.and_eq_true] at h
    refine List.nodup_cons.2 ⟨fun hm => ?_, nodupB_ok h.2⟩
    have := List.all_eq_true.1 h.1 a hm
    simp at this
theorem Orc.low_in {O : Orc} (h : O.low n = true) : O.In (Below n) := by
  simp only [Orc.low, Bool.and_eq_true] at h
  refine ⟨fun p hp => BE.low_in (List.all_eq_true.1 h.1.1 p hp), fun p hp => ?_, fun p hp => ?_⟩
  · have := List.all_eq_true.1 h.1.2 p hp
    simp only [Bool.and_eq_true] at this
    exact ⟨IE.low_in this.1, IE.low_in this.2⟩
  · have := List.all_eq_true.1 h.2 p hp
    simp only [Bool.and_eq_true] at this
    exact ⟨AA.low_in this.1, AV.low_in _ this.2⟩
theorem cfgLow_in {K : Ctx} {c : ACfg} (h : cfgLow n c = true) (hn : c.h.nb = n) (hO : K.O.low n = true) : CIds K (Below n) c := by
  simp only [cfgLow, Bool.and_eq_true] at h
  obtain ⟨⟨⟨h1, h2⟩, h3⟩, h4⟩ := h
  have blk : ∀ p ∈ c.h.hp, p.1 < n ∧ p.2.In (Below n) := fun p hp => by
    have := List.all_eq_true.1 h3 p hp
    simp only [Bool.and_eq_true] at this
    exact ⟨Nat.le_of_ble_eq_true this.1, ABlk.low_in this.2⟩
  refine ⟨AFrame.low_in h1, fun fr hf => AFrame.low_in (List.all_eq_true.1 h2 fr hf), fun i b hb => (blk _ (find_mem hb)).2, fun i hi => ?_, nodupB_ok h4, fun m hm _ hl => ?_, Orc.low_in hO⟩
  · obtain ⟨p, hp, rfl⟩ := List.mem_map.1 hi
    exact (blk p hp).1
  · have hl' : m < n := hl
    omega
end

section
variable {K : Ctx} {main : Bool} {U : Nat → Prop} {ρ : Env} {cs : List Frame}

theorem pickB_ok {hp : List (Nat × ABlk)} : ∀ {ks : List Nat} {l : List (Nat × ABlk)}, pickB hp ks = some l → keys l = ks ∧ ∀ p ∈ l, findB p.1 hp = some p.2
  | [], l, h => by cases h; exact ⟨rfl, fun p hp => by cases hp⟩
  | k :: ks, l, h => by
    unfold pickB at h
    split at h
    · rename_i b l' hb hl
      cases h
      obtain ⟨h1, h2⟩ := pickB_ok hl
      refine ⟨by show k :: keys l' = _; rw [h1], fun p hp => ?_⟩
      rcases List.mem_cons.1 hp with rfl | hp
      · exact hb
      · exact h2 p hp
    · cases h

theorem pick_find {hp l : List (Nat × ABlk)} {ks : List Nat} (h : pickB hp ks = some l) {i : Nat} {b : ABlk} (hb : findB i l = some b) : findB i hp = some b := (pickB_ok h).2 _ (find_mem hb)

theorem Rel.sub {hp hp' : List (Nat × ABlk)} {nb lim nb' lim' : Nat} {w : World} (R : Rel K ρ ⟨hp, nb, lim⟩ w) (hs : ∀ i b, findB i hp' = some b → findB i hp = some b) : Rel K ρ ⟨hp', nb', lim'⟩ w :=
  ⟨fun i b h => R.blk i b (hs i b h), fun i b h => R.own' i b (hs i b h), fun i j b c h h' e => R.inj i j b c (hs i b h) (hs j c h') e, R.bs, R.is, R.mem, R.room, fun i b h => R.lent i b (hs i b h), R.low⟩

theorem findB_key_iff {l : List (Nat × ABlk)} {i : Nat} (h : i ∈ keys l) (hn : (keys l).Nodup) : ∃ b, findB i l = some b := by
  obtain ⟨p, hp, rfl⟩ := List.mem_map.1 h
  exact ⟨p.2, mem_find hn hp⟩

theorem Next.pick {w w' : World} {h0 : AH} {cur : AFrame} {callers : List AFrame} {hp l : List (Nat × ABlk)} {nb lim : Nat} {ks : List Nat} {g' : Goroutine} (hk : nodupB ks = true) (hl : pickB hp ks = some l)
    (h : Next K U ρ cs w h0 ⟨cur, callers, ⟨hp, nb, lim⟩⟩ g' w') : Next K U ρ cs w h0 ⟨cur, callers, ⟨l, nb, lim⟩⟩ g' w' := by
  obtain ⟨ρ', a1, a2, a3, a4, R, Γ⟩ := h
  have nd : (keys l).Nodup := by rw [(pickB_ok hl).1]; exact nodupB_ok hk
  have ids : ∀ {V : Nat → Prop}, Ids K V ⟨hp, nb, lim⟩ → Ids K V ⟨l, nb, lim⟩ := fun I =>
    ⟨fun i b hb => I.hp i b (pick_find hl hb), fun i hi => by
      obtain ⟨b, hb⟩ := findB_key_iff hi nd
      exact I.keys i (findB_key (pick_find hl hb)), nd, I.fresh, I.orc⟩
  exact ⟨ρ', a1, a2, ⟨a3.nb, a3.lim, ids a3.ids⟩, ⟨a4.cur, a4.callers, ids a4.ids⟩, R.sub fun i b hb => pick_find hl hb, Γ⟩

theorem chunkTo_ok (Gd : K.Good) (F : K.Facts) {ext : Ext} (X : ExtOk K ext) {sum : Sums} (Z : SumOk K main sum) {f n : Nat} {ks : List Nat} {c c' : ACfg} (he : chunkTo? K.P K.O ext sum f n ks c = .ok c') :
    bot c'.cur.fn c'.callers = bot c.cur.fn c.callers ∧ ∃ N, Leads K main c c' N := by
  unfold chunkTo? at he
  split at he
  · rename_i cur callers hp nb lim hs
    split at he
    · rename_i l hk hl
      cases he
      obtain ⟨b, N, L⟩ := steps_ok (main := main) Gd F X Z hs
      exact ⟨b, N, fun U ρ cs g w I Γ => (L U ρ cs g w I Γ).weaken fun _ _ h => h.pick hk hl⟩
    · cases he
  · cases he
  · cases he

/-- A configuration that is another one under other names. -/
def IsRen (s : Sub) (c d : ACfg) : Prop := (d.cur.rOk s && d.callers.all (AFrame.rOk s)) = true ∧ c.cur = d.cur.ren s ∧ c.callers = d.callers.map (AFrame.ren s) ∧ c.h.hp = renH s d.h.hp

theorem Gam.ren {s : Sub} {c d : ACfg} (h : IsRen s c d) {g : Goroutine} {w : World} (Γ : Gam K ρ c cs g w) (hn : (keys c.h.hp).Nodup) {O : Orc} (F : FactsAt K O (ρ.sub s) w) : Gam (K.with O) (ρ.sub s) d cs g w := by
  obtain ⟨R, fr, frs, h1, h2, h3⟩ := Γ
  obtain ⟨hf, e1, e2, e3⟩ := h
  obtain ⟨cur, callers, hp, nb, lim⟩ := c
  obtain ⟨cur', callers', hp', nb', lim'⟩ := d
  dsimp only at e1 e2 e3 hf
  subst e1; subst e2; subst e3
  rw [Bool.and_eq_true] at hf
  exact ⟨R.ren hn F, fr, frs, h1.ren hf.1, h2.ren hf.2, h3⟩

theorem Gam.change {c : ACfg} {g : Goroutine} {w : World} (Γ : Gam K ρ c cs g w) {O : Orc} (F : FactsAt K O ρ w) : Gam (K.with O) ρ c cs g w := ⟨Γ.1.change F, Γ.2⟩

/-- A piece, from facts to facts. -/
theorem piece_ok {O O' : Orc} (Gd : K.Good) (F : (K.with O).Facts) {ext : Ext} (X : ExtOk (K.with O) ext) {sum : Sums} (Z : SumOk (K.with O) main sum) {f n nb : Nat} {ks : List Nat} {c c' d : ACfg} (he : chunkTo? K.P O ext sum f n ks c = .ok c') {s : Sub} (hr : IsRen s c' d)
    (hl : cfgLow nb c = true) (hnb : c.h.nb = nb) (hO : O.low nb = true) {g : Goroutine} {w : World} (Γ : Gam K ρ c cs g w) (Fa : FactsAt K O ρ w) :
    Walk K.P main (DK K) (fun g' w' => ∃ ρ', Agree (Below nb) ρ ρ' ∧ Keeps K.own w w' ∧ (FactsAt K O' (ρ'.sub s) w' → Gam (K.with O') (ρ'.sub s) d cs g' w')) 0 g w := by
  obtain ⟨_, N, L⟩ := chunkTo_ok (K := K.with O) (main := main) ⟨Gd.rd, Gd.wr, Gd.noWr, Gd.ext, Gd.noRoom, Gd.lock, Gd.obj⟩ F X Z he
  have W := L (Below nb) ρ cs g w (cfgLow_in hl hnb hO) (Γ.change Fa)
  exact (Walk.weaken (fun g' w' ⟨ρ', A, kp, gr, hin, Γ'⟩ => ⟨ρ', A, kp, fun F' => Gam.ren hr Γ' hin.ids.nodup (K := K.with O) ⟨F'.bs, F'.is, F'.mem⟩⟩) W).any
end
end Go.Proofs.YtmnahfonnljobaaGreatDoor.SX
