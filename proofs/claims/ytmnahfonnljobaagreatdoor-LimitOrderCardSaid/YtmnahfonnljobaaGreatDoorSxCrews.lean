/-
  Several goroutines, of which one holds: the others sit at a receive on a channel of their own, are on their way there, or leave. As closed data.
-/
import Derived.Test.YtmnahfonnljobaaGreatDoorSxLoos
import Derived.Test.YtmnahfonnljobaaGreatDoorSxRuns
import Derived.Conc.Beside
set_option linter.unusedVariables false
namespace Go.Proofs.YtmnahfonnljobaaGreatDoor.SX
noncomputable section

/-- One that waits: its number; its record at the receive; the channel's block; the element's zero value; the receive's shape; what it read on its way. -/
structure ASeat where
  id : Nat
  cfg : ACfg
  ch : Nat
  z : Value
  ok : Bool
  stills : List (AA × AV)

/-- Who holds; its record, all memory; who waits; the next number; how often the holder is deaf. -/
structure CSt where
  h : Nat
  c : ACfg
  seats : List ASeat
  next : Nat
  deaf : Nat := 0

/-- The places of block i among these. -/
def offsAt (i : Nat) : List (AA × AV) → List Nat
  | [] => []
  | p :: l => match p.1 with
    | ⟨.dyn j, .lit (.ofNat n)⟩ => match Nat.beq i j with
      | true => n :: offsAt i l
      | false => offsAt i l
    | _ => offsAt i l
def offsOf (i : Nat) : List ASeat → List Nat
  | [] => []
  | s :: l => offsAt i s.stills ++ offsOf i l
def ABlk.lend (b : ABlk) (ls : List Nat) : ABlk :=
  match b with
  | .cells cs e => match ls with
    | [] => .cells cs e
    | _ => .lent cs e ls
  | .lent cs e _ => match ls with
    | [] => .cells cs e
    | _ => .lent cs e ls
  | b => b
/-- Memory, each block labelled with what is read of it by those who wait. -/
def relabel (ss : List ASeat) : List (Nat × ABlk) → List (Nat × ABlk)
  | [] => []
  | p :: l => (p.1, p.2.lend (offsOf p.1 ss)) :: relabel ss l

def ABlk.lendable : ABlk → Bool
  | .cells _ _ => true
  | .lent _ _ _ => true
  | _ => false
def isChanAt (hp : List (Nat × ABlk)) (i : Nat) : Bool :=
  match findB i hp with
  | some b => b.isChan
  | none => false
def stillAt (hp : List (Nat × ABlk)) (p : AA × AV) : Bool :=
  match p.1 with
  | ⟨.dyn i, .lit (.ofNat n)⟩ => match findB i hp with
    | some b => b.lendable
    | none => false
  | _ => false
def stillsAt (hp : List (Nat × ABlk)) : List (AA × AV) → Bool
  | [] => true
  | p :: l => match stillAt hp p with
    | true => stillsAt hp l
    | false => false
/-- All that those who wait lean on lies in memory. -/
def seatsOk (hp : List (Nat × ABlk)) : List ASeat → Bool
  | [] => true
  | s :: l => match isChanAt hp s.ch, stillsAt hp s.stills with
    | true, true => seatsOk hp l
    | _, _ => false
/-- Nobody sits at that channel, nobody has that number. -/
def apartOf (i ch : Nat) : List ASeat → Bool
  | [] => true
  | s :: l => match Nat.beq s.ch ch, Nat.beq s.id i with
    | false, false => apartOf i ch l
    | _, _ => false

/-- The cell that the next operation loads. -/
def wants? (c : ACfg) (hp : List (Nat × ABlk)) : Option (AA × AV) :=
  match c with
  | ⟨⟨_, _, tmps, .inRegion ops (i :: _) :: _, _, _, _⟩, _, _⟩ => match ops[i]? with
    | some o => match o.op with
      | .load _ x => match evalA tmps x with
        | .ptr (some ⟨.dyn j, .lit (.ofNat n)⟩) => match findB j hp with
          | some b => match b.cs[n]? with
            | some v => some (⟨.dyn j, .lit (.ofNat n)⟩, v)
            | none => none
          | none => none
        | _ => none
      | _ => none
    | none => none
  | _ => none

def noExt : Ext := fun _ _ _ => .error "no entry"
def Orc.knows (O : Orc) (l : List (AA × AV)) : Orc := { O with mem := l ++ O.mem }
def Orc.bare (O : Orc) : Orc := { O with bs := [], is := [], mem := [] }

/-- The way to the receive: what is read, how many steps, where it ends. -/
def wayOf (P : Program) (O : Orc) (hp : List (Nat × ABlk)) : Nat → Nat → List (AA × AV) → ACfg → M (List (AA × AV) × Nat × ACfg)
  | 0, _, _, _ => .error "way fuel"
  | f + 1, n, st, c => match recvAt? P c with
    | some _ => .ok (st, n, c)
    | none =>
      let st := match wants? c hp with
        | some p => p :: st
        | none => st
      match lstep? P (O.knows st) noExt c with
      | .ok c => wayOf P O hp f (n + 1) st c
      | .error e => .error e

/-- These cells hold these values. -/
def reads1 (hp : List (Nat × ABlk)) (p : AA × AV) : Bool :=
  match p.1 with
  | ⟨.dyn i, .lit (.ofNat n)⟩ => match findB i hp with
    | some b => match b.cs[n]? with
      | some v => b.lendable && AV.eqb v p.2
      | none => false
    | none => false
  | _ => false
def readsAll (hp : List (Nat × ABlk)) : List (AA × AV) → Bool
  | [] => true
  | p :: l => match reads1 hp p with
    | true => readsAll hp l
    | false => false

/-- A seat for a record on its way. -/
def seat? (P : Program) (O : Orc) (hp : List (Nat × ABlk)) (i : Nat) (c : ACfg) : M (Nat × ASeat) :=
  match wayOf P O hp 400 0 [] c with
  | .error e => .error e
  | .ok (st, n, _) => match lrun? P (O.knows st) noExt n c with
    | .error e => .error e
    | .ok c' => match recvAt? P c' with
      | some (.dyn ch, z, ok) => .ok (n, ⟨i, c', ch, z, ok, st⟩)
      | _ => .error "seat no receive"

/-- The operation that comes next. -/
def opAt (c : ACfg) : Option Oper :=
  match c with
  | ⟨⟨_, _, _, .inRegion ops (i :: _) :: _, _, .run, kind⟩, _, _⟩ => match tagged kind with
   | true => none
   | false => match ops[i]? with
    | some o => match o.guard with
      | none => some o
      | some _ => none
    | none => none
  | _ => none

def takes (ch : Nat) : List ASeat → Option (ASeat × List ASeat)
  | [] => none
  | s :: l => match Nat.beq s.ch ch with
    | true => some (s, l)
    | false => match takes ch l with
      | some (t, r) => some (t, s :: r)
      | none => none

def recvdA (ok : Bool) (v : AV) : AV :=
  match ok with
  | true => .tuple [v, .bool (.lit true)]
  | false => v

/-- The holder's send. -/
def give? (P : Program) (O : Orc) (x y : Operand) (st : CSt) : M CSt :=
  match st with
  | ⟨h, ⟨cur, callers, ⟨hp, nb, lim⟩⟩, seats, next, deaf⟩ => match deaf, evalA cur.tmps x with
    | 0, .chan (some (.dyn ch)) => match takes ch seats with
      | none => .error "send nobody sits there"
      | some (s, rest) => match finishA s.cfg.cur (recvdA s.ok (evalA cur.tmps y)), finishA cur undefA with
        | .ok tk, .ok gv =>
          match (match Nat.beq h 0 with | true => false | false => leave? P O.bare noExt 400 ⟨gv, callers, e0⟩) with
          | true => match seatsOk hp seats with
            | true => .ok ⟨s.id, ⟨tk, s.cfg.callers, ⟨relabel rest hp, nb, lim⟩⟩, rest, next, 0⟩
            | false => .error "send seats"
          | false => match seat? P O hp h ⟨gv, callers, e0⟩ with
            | .error e => .error e
            | .ok (_, s') => match seatsOk hp seats, isChanAt hp s'.ch, readsAll hp s'.stills, apartOf h s'.ch seats with
              | true, true, true, true => .ok ⟨s.id, ⟨tk, s.cfg.callers, ⟨relabel (s' :: rest) hp, nb, lim⟩⟩, s' :: rest, next, 0⟩
              | _, _, _, _ => .error "send the givers seat"
        | _, _ => .error "send finish"
    | _, _ => .error "send no channel"

/-- The holder's go statement. -/
def hire? (P : Program) (O : Orc) (call : Call) (type : TypeId) (st : CSt) : M CSt :=
  match st with
  | ⟨h, ⟨cur, callers, ⟨hp, nb, lim⟩⟩, seats, next, deaf⟩ => match deaf, resolve? (evalA cur.tmps) call type with
    | 0, .ok ⟨.fn (.func f) cap, args⟩ => match O.fns.contains f, enterA P f (args ++ cap) .deferred, finishA cur undefA with
      | true, .ok fr, .ok gv => match seat? P O hp next ⟨fr, [], e0⟩ with
        | .error e => .error e
        | .ok (_, s') => match seatsOk hp seats, isChanAt hp s'.ch, readsAll hp s'.stills, apartOf next s'.ch seats with
          | true, true, true, true => .ok ⟨h, ⟨gv, callers, ⟨relabel (s' :: seats) hp, nb, lim⟩⟩, s' :: seats, next + 1, 0⟩
          | _, _, _, _ => .error "go the childs seat"
      | _, _, _ => .error "go enter"
    | _, .ok _ => .error "go no function"
    | _, .error e => .error e

/-- Does the call deafen, or let one hear again? -/
def markOf? (O : Orc) (t : TT) (c : Call) : Option Bool :=
  match c.callee with
  | .value x => match c.args.toList with
    | [] => match evalA t x with
      | .func (.func f) [] [] => look (fun a b => Nat.beq a b) f O.offs
      | _ => none
    | _ => none
  | _ => none
def deafer (dis : Bool) (n : Nat) : Nat :=
  match dis with
  | true => n + 1
  | false => n - 1

/-- A function with just one result, that lies in a temporary. -/
def oneTmp (P : Program) (f : FuncId) : Bool :=
  match P.funcs[f]? with
  | some fn => match fn.results.toList with
    | [.tmp _] => (P.inits.idxOf? f).isNone
    | _ => false
  | none => false

/-- A step of the crew; its end: goroutine 0's function returns that, and nobody waits. -/
def crew1? (P : Program) (O : Orc) (ext : Ext) (sum : Sums) (f : Nat) (st : CSt) : M (CSt ⊕ AV) :=
  let walk : M (CSt ⊕ AV) := match step? P O ext (fun g args h => match sum g args h with
      | some r => r
      | none => match enterA P g args .normal with
        | .ok fr => run? P O ext sum f ⟨fr, [], h⟩
        | .error e => .error e) st.c with
    | .ok (.inl c) => .ok (.inl { st with c })
    | .ok (.inr (.returned v, _)) => match Nat.beq st.h 0, st.seats, st.c.callers, oneTmp P st.c.cur.fn, st.deaf with
      | true, [], [], true, 0 => .ok (.inr v)
      | _, _, _, _, _ => .error "the end somebody waits"
    | .ok (.inr _) => .error "the end a panic"
    | .error e => .error e
  match opAt st.c with
  | some o => match o.op with
    | .send x y => match give? P O x y st with
      | .ok s => .ok (.inl s)
      | .error e => .error e
    | .go c => match hire? P O c o.type st with
      | .ok s => .ok (.inl s)
      | .error e => .error e
    | .call c => match markOf? O st.c.cur.tmps c with
      | some dis => match finishA st.c.cur undefA with
        | .ok fr => .ok (.inl { st with c := ⟨fr, st.c.callers, st.c.h⟩, deaf := deafer dis st.deaf })
        | .error e => .error e
      | none => walk
    | _ => walk
  | none => walk

def crew? (P : Program) (O : Orc) (ext : Ext) (sum : Sums) (f n : Nat) : CSt → M (CSt ⊕ AV) :=
  Nat.rec (fun c => .ok (.inl c)) (fun _ ih c => match crew1? P O ext sum f c with
    | .ok (.inl c) => ih c
    | .ok (.inr r) => .ok (.inr r)
    | .error e => .error e) n

/-- So many steps, then only these blocks (none that somebody leans on is dropped). -/
def cchunk? (P : Program) (O : Orc) (ext : Ext) (sum : Sums) (f n : Nat) (ks : List Nat) (st : CSt) : M CSt :=
  match crew? P O ext sum f n st with
  | .ok (.inl ⟨h, ⟨cur, callers, ⟨hp, nb, lim⟩⟩, seats, next, deaf⟩) => .ok ⟨h, ⟨cur, callers, ⟨sieve hp ks, nb, lim⟩⟩, seats, next, deaf⟩
  | .ok (.inr _) => .error "chunk it ends"
  | .error e => .error e

def clast? (P : Program) (O : Orc) (ext : Ext) (sum : Sums) (f n : Nat) (st : CSt) : Bool :=
  match crew? P O ext sum f n st with
  | .ok (.inr (.bool (.lit b))) => b
  | _ => false
end
end Go.Proofs.YtmnahfonnljobaaGreatDoor.SX
/-
  The crew, sound: what the holder's context is; what waits against the closed data; the heap behind a change of seats.
-/
set_option linter.unusedSectionVars false
set_option linter.unusedVariables false
set_option linter.unusedSimpArgs false
namespace Go.Proofs.YtmnahfonnljobaaGreatDoor.SX
open Go.Conc

def seatCh (seats : List ASeat) (ρ : Env) (b : Nat) : Prop := ∃ s ∈ seats, b = ρ.b s.ch
def stillC (seats : List ASeat) (ρ : Env) (b n : Nat) : Prop := ∃ s ∈ seats, ∃ p ∈ s.stills, p.1.ev ρ = ⟨b, n, none⟩
def stillS (seats : List ASeat) (ρ : Env) (b n : Nat) : Prop := stillC seats ρ b n ∨ (n = 0 ∧ seatCh seats ρ b)
def keptA (O : Orc) (seats : List ASeat) (ρ : Env) (a : Addr) : Prop := stillS seats ρ a.block a.off ∨ ∃ p ∈ O.mem, p.1.ev ρ = a
/-- No write of such a place; no mark that deafens or touches. -/
def crewEv (N : Addr → Prop) (e : Event) : Prop := (∀ a s, e = ⟨.cell a, true, s⟩ → ¬ N a) ∧ ∀ m, e.loc = .mark m → markOk m = true
/-- The holder's context. -/
def CK (P : Program) (O : Orc) (base : Nat) (seats : List ASeat) (ρ : Env) : Ctx := ⟨P, O, fun n => base ≤ n ∧ ¬ seatCh seats ρ n, crewEv (keptA O seats ρ), False, stillS seats ρ⟩

section
variable {P : Program} {O : Orc} {base : Nat} {seats : List ASeat} {ρ ρ' : Env} {U U' : Nat → Prop} {cs : List Frame}

theorem ev_read (N : Addr → Prop) (a : Addr) (s : Bool) : crewEv N ⟨.cell a, false, s⟩ := ⟨fun a' s' e => by (cases e), fun m e => by (cases e)⟩
theorem ev_obj (N : Addr → Prop) (r : Nat) (wr s : Bool) : crewEv N ⟨.obj r, wr, s⟩ := ⟨fun a' s' e => by (cases e), fun m e => by (cases e)⟩
theorem ev_mark (N : Addr → Prop) {m : Mark} (h : markOk m = true) : crewEv N ⟨.mark m, false, true⟩ := ⟨fun a' s' e => by (cases e), fun m' e => by (cases e; exact h)⟩

theorem CK_good (hm : ∀ p ∈ O.mem, (p.1.ev ρ).block < base) : (CK P O base seats ρ).Good := by
  refine ⟨fun a s _ => ev_read _ a s, fun a s ho hn => ⟨fun a' s' e => ?_, fun m e => by (cases e)⟩, fun b n s hs he => he.1 ⟨b, n, none⟩ s rfl (.inl hs), fun m h => ev_mark _ h, ev_mark _ rfl, fun h => h.elim, fun r wr s _ => ev_obj _ r wr s⟩
  cases e
  rintro (h | ⟨p, hp, he⟩)
  · exact hn h
  · have := hm p hp
    rw [he] at this
    exact absurd ho.1 (Nat.not_le.2 this)

/-- What waits: the closed data and the seat. -/
structure SeatIs (P : Program) (O : Orc) (base : Nat) (U : Nat → Prop) (ρ : Env) (cs : List Frame) (s : ASeat) (t : Tok.Seat) : Prop where
  c : t.c = ρ.b s.ch
  ge : base ≤ ρ.b s.ch
  z : t.z = s.z
  ok : t.ok = s.ok
  still : ∀ l, t.still l → ∃ p ∈ s.stills ++ O.mem, l = .cell (p.1.ev ρ)
  keep : ∀ w, t.keep w ↔ ∀ p ∈ s.stills ++ O.mem, w.cell? (p.1.ev ρ) = some (p.2.ev ρ)
  home : ∀ g, t.home g → LIds U s.cfg ∧ LGam P ρ s.cfg cs g
  uch : U s.ch
  us : ∀ p ∈ s.stills, p.1.In U ∧ p.2.In U

theorem LGam.agree (A : Agree U ρ ρ') {c : ACfg} (I : LIds U c) {g : Goroutine} (Γ : LGam P ρ c cs g) : LGam P ρ' c cs g := by
  obtain ⟨fr, frs, h1, h2, h3⟩ := Γ
  exact ⟨fr, frs, h1.agree A I.cur, callers_agree A h2 I.callers, h3⟩

theorem SeatIs.agree {s : ASeat} {t : Tok.Seat} (h : SeatIs P O base U ρ cs s t) (A : Agree U ρ ρ') (hO : O.In U) (hs : ∀ n, U n → U' n) : SeatIs P O base U' ρ' cs s t := by
  have hb : ρ'.b s.ch = ρ.b s.ch := A.b _ h.uch
  have hin : ∀ p ∈ s.stills ++ O.mem, p.1.In U ∧ p.2.In U := fun p hp => (List.mem_append.1 hp).elim (h.us p) (hO.mem p)
  refine ⟨by rw [hb]; exact h.c, by rw [hb]; exact h.ge, h.z, h.ok, fun l hl => ?_, fun w => ?_, fun g hg => ?_, hs _ h.uch, fun p hp => ⟨AA.In.mono hs (h.us p hp).1, AV.In.mono hs _ (h.us p hp).2⟩⟩
  · obtain ⟨p, hp, e⟩ := h.still l hl
    exact ⟨p, hp, by rw [AA.ev_agree A (hin p hp).1]; exact e⟩
  · rw [h.keep]
    exact ⟨fun x p hp => by rw [AA.ev_agree A (hin p hp).1, AV.ev_agree A _ (hin p hp).2]; exact x p hp, fun x p hp => by have := x p hp; rwa [AA.ev_agree A (hin p hp).1, AV.ev_agree A _ (hin p hp).2] at this⟩
  · obtain ⟨I, Γ⟩ := h.home g hg
    exact ⟨⟨I.cur.mono hs, fun fr hf => (I.callers fr hf).mono hs⟩, Γ.agree A I⟩

theorem CK_agree (A : Agree U ρ ρ') (h1 : ∀ s ∈ seats, U s.ch ∧ ∀ p ∈ s.stills, p.1.In U) (hO : O.In U) : CK P O base seats ρ' = CK P O base seats ρ := by
  have e1 : seatCh seats ρ' = seatCh seats ρ := by
    funext b
    exact propext ⟨fun ⟨s, hs, e⟩ => ⟨s, hs, by rw [← A.b _ (h1 s hs).1]; exact e⟩, fun ⟨s, hs, e⟩ => ⟨s, hs, by rw [A.b _ (h1 s hs).1]; exact e⟩⟩
  have e2 : stillC seats ρ' = stillC seats ρ := by
    funext b n
    exact propext ⟨fun ⟨s, hs, p, hp, e⟩ => ⟨s, hs, p, hp, by rw [← AA.ev_agree A ((h1 s hs).2 p hp)]; exact e⟩, fun ⟨s, hs, p, hp, e⟩ => ⟨s, hs, p, hp, by rw [AA.ev_agree A ((h1 s hs).2 p hp)]; exact e⟩⟩
  have e3 : stillS seats ρ' = stillS seats ρ := by unfold stillS; rw [e1, e2]
  have e4 : keptA O seats ρ' = keptA O seats ρ := by
    funext a
    unfold keptA
    rw [e3]
    exact propext ⟨fun h => h.imp id fun ⟨p, hp, e⟩ => ⟨p, hp, by rw [← AA.ev_agree A (hO.mem p hp).1]; exact e⟩, fun h => h.imp id fun ⟨p, hp, e⟩ => ⟨p, hp, by rw [AA.ev_agree A (hO.mem p hp).1]; exact e⟩⟩
  unfold CK
  rw [e1, e3, e4]

theorem AA.ev_none (ρ : Env) (a : AA) : a.ev ρ = ⟨(a.ev ρ).block, (a.ev ρ).off, none⟩ := rfl

/-- The holder's guarantee, in the token's words. -/
theorem DK_hold {Inb : Nat → Option Tok.Seat} (hm : ∀ p ∈ O.mem, (p.1.ev ρ).block < base) (all : ∀ i t, Inb i = some t → ∃ s ∈ seats, ∃ cs, SeatIs P O base U ρ cs s t) :
    ∀ w w' es, DK (CK P O base seats ρ) w w' es → Tok.DHold Inb w w' es := by
  rintro w w' es ⟨hk, he, hst⟩
  refine ⟨fun i t e hkp => ?_, fun i t e => ?_, fun e hee => ?_⟩
  · obtain ⟨s, hs, cs, S⟩ := all i t e
    rw [S.keep] at hkp ⊢
    intro p hp
    rcases List.mem_append.1 hp with hp' | hp'
    · have := hkp p hp
      rw [AA.ev_none] at this ⊢
      exact hst _ _ _ (.inl ⟨s, hs, p, hp', AA.ev_none ρ p.1⟩) this
    · have := hkp p hp
      have hn : ¬ (CK P O base seats ρ).own (p.1.ev ρ).block := fun h => absurd h.1 (Nat.not_le.2 (hm p hp'))
      simp only [World.cell?] at this ⊢
      rw [hk.heap _ hn]; exact this
  · obtain ⟨s, hs, cs, S⟩ := all i t e
    exact hk.heap _ fun h => h.2 ⟨s, hs, S.c⟩
  · have hE : crewEv (keptA O seats ρ) e := he e hee
    refine ⟨fun x hx g hg => ?_, fun e1 => ?_, fun e1 => ?_⟩
    · obtain ⟨t, ht, hl⟩ := hg
      obtain ⟨s, hs, cs, S⟩ := all g t ht
      obtain ⟨p, hp, hp2⟩ := S.still _ hl
      have hN : keptA O seats ρ (p.1.ev ρ) := (List.mem_append.1 hp).elim (fun h => .inl (.inl ⟨s, hs, p, h, AA.ev_none ρ p.1⟩)) fun h => .inr ⟨p, h, rfl⟩
      obtain ⟨loc, wr, sy⟩ := e
      cases loc with
      | cell a =>
        have hx' : some (⟨.cell a, wr, if sy then .atomic else .plain⟩ : Touch) = some x := hx
        cases hx'
        have ea : a = p.1.ev ρ := by simpa using hp2
        cases wr with
        | false => rfl
        | true => exact absurd hN (ea ▸ hE.1 a sy rfl)
      | mark m =>
        have hmk := hE.2 m rfl
        cases m <;> first | (cases hmk; done) | cases hx
      | obj r =>
        cases wr <;> cases sy <;> (cases hx; try cases hp2)
      | output =>
        have hx' : some (⟨.output, wr, if sy then .atomic else .plain⟩ : Touch) = some x := hx
        cases hx'; cases hp2
      | goroutines =>
        have hx' : some (⟨.goroutines, wr, if sy then .atomic else .plain⟩ : Touch) = some x := hx
        cases hx'; cases hp2
    · have := hE.2 _ e1; cases this
    · have := hE.2 _ e1; cases this

/-! ### The heap behind a change of seats -/
theorem findB_relabel (ss : List ASeat) : ∀ (hp : List (Nat × ABlk)) (i : Nat), findB i (relabel ss hp) = (findB i hp).map fun b => b.lend (offsOf i ss)
  | [], i => rfl
  | p :: l, i => by
    show findB i ((p.1, p.2.lend (offsOf p.1 ss)) :: relabel ss l) = _
    rw [find_cons, find_cons, findB_relabel ss l i]
    cases e : Nat.beq i p.1 with
    | true =>
      have := Nat.eq_of_beq_eq_true e
      subst this
      rfl
    | false => rfl

theorem keys_relabel (ss : List ASeat) : ∀ (hp : List (Nat × ABlk)), keys (relabel ss hp) = keys hp
  | [] => rfl
  | p :: l => by show p.1 :: keys (relabel ss l) = p.1 :: keys l; rw [keys_relabel ss l]

theorem isChan_lend (b : ABlk) (ls : List Nat) : (b.lend ls).isChan = b.isChan := by cases b <;> first | rfl | (cases ls <;> rfl)
theorem lend_is {b : ABlk} {o : Obj} (h : b.is P ρ o) (ls : List Nat) : (b.lend ls).is P ρ o := by
  cases b with
  | cells cs e => cases ls <;> exact h
  | lent cs e l => cases ls <;> exact h
  | _ => exact h
theorem lend_in {b : ABlk} (h : b.In U) (ls : List Nat) : (b.lend ls).In U := by
  cases b with
  | cells cs e => cases ls <;> exact h
  | lent cs e l => cases ls <;> exact h
  | _ => exact h
theorem lend_isLent {b : ABlk} (hb : b.lendable = true) {ls : List Nat} {n : Nat} (h : n ∈ ls) : (b.lend ls).isLent n = true := by
  cases ls with
  | nil => cases h
  | cons a l =>
    cases b with
    | cells cs e => simpa [ABlk.lend, ABlk.isLent] using h
    | lent cs e l' => simpa [ABlk.lend, ABlk.isLent] using h
    | _ => cases hb

theorem offsAt_mem {i n : Nat} {v : AV} : ∀ {l : List (AA × AV)}, ((⟨.dyn i, .lit (.ofNat n)⟩ : AA), v) ∈ l → n ∈ offsAt i l
  | p :: l, h => by
    rcases List.mem_cons.1 h with h' | h'
    · subst h'
      unfold offsAt
      simp
    · have ih := offsAt_mem h'
      unfold offsAt
      split
      · split
        · exact List.mem_cons_of_mem _ ih
        · exact ih
      · exact ih
theorem offsOf_mem {i n : Nat} {v : AV} {s : ASeat} (hp : ((⟨.dyn i, .lit (.ofNat n)⟩ : AA), v) ∈ s.stills) : ∀ {ss : List ASeat}, s ∈ ss → n ∈ offsOf i ss
  | t :: l, h => by
    unfold offsOf
    rcases List.mem_cons.1 h with h' | h'
    · subst h'; exact List.mem_append.2 (.inl (offsAt_mem hp))
    · exact List.mem_append.2 (.inr (offsOf_mem hp h'))

theorem stillsAt_ok {hp : List (Nat × ABlk)} : ∀ {l : List (AA × AV)}, stillsAt hp l = true → ∀ p ∈ l, ∃ i n b, p.1 = ⟨.dyn i, .lit (.ofNat n)⟩ ∧ findB i hp = some b ∧ b.lendable = true
  | q :: l, h, p, hpm => by
    unfold stillsAt at h
    split at h
    · rename_i hq
      rcases List.mem_cons.1 hpm with e | hpm
      · subst e
        unfold stillAt at hq
        split at hq
        · rename_i i n e
          split at hq
          · rename_i b hb; exact ⟨i, n, b, e, hb, hq⟩
          · cases hq
        · cases hq
      · exact stillsAt_ok h p hpm
    · cases h
theorem isChanAt_ok {hp : List (Nat × ABlk)} {i : Nat} (h : isChanAt hp i = true) : findB i hp = some .chan := by
  unfold isChanAt at h
  split at h
  · rename_i b hb
    cases b <;> first | (cases h; done) | exact hb
  · cases h
theorem seatsOk_ok {hp : List (Nat × ABlk)} : ∀ {l : List ASeat}, seatsOk hp l = true → ∀ s ∈ l, findB s.ch hp = some .chan ∧ stillsAt hp s.stills = true
  | q :: l, h, s, hs => by
    unfold seatsOk at h
    split at h
    · rename_i h1 h2
      rcases List.mem_cons.1 hs with e | hs
      · subst e; exact ⟨isChanAt_ok h1, h2⟩
      · exact seatsOk_ok h s hs
    · cases h

theorem is_chan {o : Obj} {b : ABlk} (h : b.is P ρ o) {k : Nat} (ho : o = .chan 0 #[] false k k false) : b = .chan := by
  subst ho
  rcases h with ⟨arr, e, _⟩ | h
  · cases e
  · cases b with
    | map es => obtain ⟨_, _, e, _⟩ := h; cases e
    | chan => rfl
    | vmap s n fs ws => obtain ⟨_, _, _, e, _⟩ := h; cases e
    | _ => exact h.elim

def chanObj (o : Option Obj) : Prop := ∃ k, o = some (.chan 0 #[] false k k false)

theorem rel_ge {hp : List (Nat × ABlk)} {nb lim : Nat} {w : World} (R : Rel (CK P O base seats ρ) ρ ⟨hp, nb, lim⟩ w) (hge : ∀ s ∈ seats, base ≤ ρ.b s.ch) (hok : seatsOk hp seats = true) {i : Nat} {b : ABlk} (hb : findB i hp = some b) : base ≤ ρ.b i := by
  rcases R.own' i b hb with h | ⟨hc, ⟨s, hs, p, hp', e⟩ | ⟨_, s, hs, e⟩⟩
  · exact h.1
  · obtain ⟨i', n, b2, e1, e2, e3⟩ := stillsAt_ok (seatsOk_ok hok s hs).2 p hp'
    rw [e1] at e
    have : ρ.b i' = ρ.b i := congrArg Addr.block e
    have := R.inj _ _ _ _ e2 hb this
    subst this
    rw [hb] at e2
    cases e2
    cases b <;> first | (cases hc; done) | cases e3
  · rw [e]; exact hge s hs

theorem seatsOk_mk {hp : List (Nat × ABlk)} : ∀ {l : List ASeat}, (∀ s ∈ l, findB s.ch hp = some .chan ∧ stillsAt hp s.stills = true) → seatsOk hp l = true
  | [], _ => rfl
  | q :: l, h => by
    obtain ⟨h1, h2⟩ := h q (List.mem_cons_self ..)
    unfold seatsOk
    have : isChanAt hp q.ch = true := by unfold isChanAt; rw [h1]; rfl
    rw [this, h2]
    exact seatsOk_mk fun s hs => h s (List.mem_cons_of_mem _ hs)

theorem rel_move {hp : List (Nat × ABlk)} {nb lim : Nat} {w w' : World} {seats' : List ASeat} (R : Rel (CK P O base seats ρ) ρ ⟨hp, nb, lim⟩ w) (hsz : w'.heap.size = w.heap.size)
    (hh : ∀ n : Nat, w'.heap[n]? = w.heap[n]? ∨ (chanObj w.heap[n]? ∧ chanObj w'.heap[n]?)) (hm : ∀ p ∈ O.mem, (p.1.ev ρ).block < base) (hge : ∀ s ∈ seats, base ≤ ρ.b s.ch) (hok : seatsOk hp seats = true) (hok' : seatsOk hp seats' = true) :
    Rel (CK P O base seats' ρ) ρ ⟨relabel seats' hp, nb, lim⟩ w' := by
  have fnd : ∀ {i : Nat} {b' : ABlk}, findB i (relabel seats' hp) = some b' → ∃ b, findB i hp = some b ∧ b' = b.lend (offsOf i seats') := by
    intro i b' h
    rw [findB_relabel] at h
    obtain ⟨b, h1, h2⟩ := Option.map_eq_some_iff.1 h
    exact ⟨b, h1, h2.symm⟩
  have ge : ∀ {i : Nat} {b : ABlk}, findB i hp = some b → base ≤ ρ.b i := fun hb => rel_ge R hge hok hb
  have keep : ∀ {n : Nat} {o : Obj}, w.heap[n]? = some o → (∀ k, o ≠ .chan 0 #[] false k k false) → w'.heap[n]? = some o := by
    intro n o ho hne
    rcases hh n with h | ⟨⟨k, h⟩, _⟩
    · rw [h, ho]
    · rw [h] at ho; cases ho; exact absurd rfl (hne k)
  refine ⟨fun i b' hb' => ?_, fun i b' hb' => ?_, fun i j b c hb hc e => ?_, R.bs, R.is, fun p hp => ?_, fun n hn => ?_, fun i b' hb' n hs => ?_, fun b n hs => ?_⟩
  · obtain ⟨b, hb, rfl⟩ := fnd hb'
    obtain ⟨o, ho, hi⟩ := R.blk i b hb
    rcases hh (ρ.b i) with h | ⟨⟨k, h⟩, k', h'⟩
    · exact ⟨o, by rw [h]; exact ho, lend_is hi _⟩
    · rw [h] at ho
      cases ho
      have := is_chan hi rfl
      subst this
      exact ⟨_, h', .inr ⟨k', rfl⟩⟩
  · obtain ⟨b, hb, rfl⟩ := fnd hb'
    rw [isChan_lend]
    by_cases hc : seatCh seats' ρ (ρ.b i)
    · right
      obtain ⟨s, hs, e⟩ := id hc
      have hs2 := (seatsOk_ok hok' s hs).1
      have := R.inj _ _ _ _ hb hs2 e
      subst this
      rw [hb] at hs2
      cases hs2
      exact ⟨rfl, .inr ⟨rfl, hc⟩⟩
    · exact .inl ⟨ge hb, hc⟩
  · obtain ⟨b1, hb1, _⟩ := fnd hb
    obtain ⟨c1, hc1, _⟩ := fnd hc
    exact R.inj i j b1 c1 hb1 hc1 e
  · obtain ⟨m1, m2, m3⟩ := R.mem p hp
    refine ⟨fun h => absurd h.1 (Nat.not_le.2 (hm p hp)), ?_, fun s => ev_read _ _ s⟩
    simp only [World.cell?] at m2 ⊢
    cases ho : w.heap[(p.1.ev ρ).block]? with
    | none => rw [ho] at m2; cases m2
    | some o =>
      rw [keep ho (fun k e => by rw [ho, e] at m2; cases m2)]
      rw [ho] at m2
      exact m2
  · rw [hsz] at hn
    refine ⟨(R.room n hn).1, fun ⟨s, hs, e⟩ => ?_⟩
    obtain ⟨o, ho, _⟩ := R.blk _ _ (seatsOk_ok hok' s hs).1
    have := heap_lt ho
    omega
  · obtain ⟨b, hb, rfl⟩ := fnd hb'
    rcases hs with ⟨s, hs, p, hp', e⟩ | ⟨rfl, s, hs, e⟩
    · obtain ⟨i', n', b2, e1, e2, e3⟩ := stillsAt_ok (seatsOk_ok hok' s hs).2 p hp'
      rw [e1] at e
      have h1 : ρ.b i' = ρ.b i := congrArg Addr.block e
      have h2 : n' = n := congrArg Addr.off e
      have := R.inj _ _ _ _ e2 hb h1
      subst this; subst h2
      rw [hb] at e2
      cases e2
      obtain ⟨pa, pv⟩ := p
      dsimp only at e1
      subst e1
      exact lentAt_of (lend_isLent e3 (offsOf_mem hp' hs))
    · have hs2 := (seatsOk_ok hok' s hs).1
      have := R.inj _ _ _ _ hb hs2 e
      subst this
      rw [hb] at hs2
      cases hs2
      rfl
  · rw [hsz]
    rcases hs with ⟨s, hs, p, hp', e⟩ | ⟨rfl, s, hs, e⟩
    · obtain ⟨i', n', b2, e1, e2, e3⟩ := stillsAt_ok (seatsOk_ok hok' s hs).2 p hp'
      rw [e1] at e
      have h1 : ρ.b i' = b := congrArg Addr.block e
      obtain ⟨o, ho, _⟩ := R.blk _ _ e2
      rw [← h1]; exact heap_lt ho
    · obtain ⟨o, ho, _⟩ := R.blk _ _ (seatsOk_ok hok' s hs).1
      rw [e]; exact heap_lt ho

theorem ids_move {hp : List (Nat × ABlk)} {nb lim : Nat} {seats' : List ASeat} (I : Ids (CK P O base seats ρ) U ⟨hp, nb, lim⟩) : Ids (CK P O base seats' ρ) U ⟨relabel seats' hp, nb, lim⟩ := by
  refine ⟨fun i b' hb' => ?_, fun i hi => I.keys i (by rw [keys_relabel] at hi; exact hi), by rw [keys_relabel]; exact I.nodup, I.fresh, I.orc⟩
  rw [findB_relabel] at hb'
  obtain ⟨b, h1, rfl⟩ := Option.map_eq_some_iff.1 hb'
  exact lend_in (I.hp i b h1) _
end
end Go.Proofs.YtmnahfonnljobaaGreatDoor.SX
/-
  The crew, sound: the frame between two moves; the holder's walk.
-/
set_option linter.unusedSectionVars false
set_option linter.unusedVariables false
set_option linter.unusedSimpArgs false
namespace Go.Proofs.YtmnahfonnljobaaGreatDoor.SX
open Go.Conc

/-- What lies below: goroutine 0's callers; another's base. -/
def csOf (P : Program) (cs : List Frame) (i : Nat) : List Frame := if i = 0 then cs else [baseF P]

structure CrewSound (P : Program) (O : Orc) (ext : Ext) (sum : Sums) : Prop where
  facts : ∀ own Ev lock still, (⟨P, O, own, Ev, lock, still⟩ : Ctx).Facts
  ext : ∀ own Ev lock still, (⟨P, O, own, Ev, lock, still⟩ : Ctx).Good → ExtOk ⟨P, O, own, Ev, lock, still⟩ ext
  offs : ∀ p ∈ O.offs, ExtFact P p.1 (fun _ => do mark (match p.2 with | true => .disable | false => .enable); pure Extern.Race.none_)
  sum : ∀ own Ev lock still main, (⟨P, O, own, Ev, lock, still⟩ : Ctx).Good → SumOk ⟨P, O, own, Ev, lock, still⟩ main sum

/-- The frame between two moves. -/
structure CFr (P : Program) (O : Orc) (base : Nat) (W0 : World) (cs : List Frame) (st : CSt) (gs : Array Goroutine) (w : World) (T : Trace) (q : Nat → Nat) (Inb : Nat → Option Tok.Seat) (U : Nat → Prop) (ρ : Env) (γ : Nat → Nat) (a : Goroutine) : Prop where
  core : Tok.Core P Inb (γ st.h) st.deaf T gs w q
  zero : γ 0 = 0
  inj : ∀ i j, i < st.next → j < st.next → γ i = γ j → i = j
  lt : ∀ i, i < st.next → γ i < gs.size
  hlt : st.h < st.next
  here : gs[γ st.h]? = some a
  ids : CIds (CK P O base st.seats ρ) U st.c
  gam : Gam (CK P O base st.seats ρ) ρ st.c (csOf P cs st.h) a w
  seats : ∀ s ∈ st.seats, s.id < st.next ∧ s.id ≠ st.h ∧ ∃ t, Inb (γ s.id) = some t ∧ SeatIs P O base U ρ (csOf P cs s.id) s t
  all : ∀ i t, Inb i = some t → ∃ s ∈ st.seats, i = γ s.id
  nodup : (st.seats.map ASeat.id).Nodup
  keeps : Keeps (fun n => base ≤ n) W0 w
  mem : ∀ p ∈ O.mem, (p.1.ev ρ).block < base

def CInv (P : Program) (O : Orc) (base : Nat) (W0 : World) (cs : List Frame) (st : CSt) (m : Machine) (T : Trace) : Prop :=
  ∃ gs w sl q Inb U ρ γ a, m = crowd gs w sl ∧ CFr P O base W0 cs st gs w T q Inb U ρ γ a

section
variable {P : Program} {O : Orc} {ext : Ext} {sum : Sums} {base : Nat} {W0 : World} {cs : List Frame} {st : CSt} {gs : Array Goroutine} {w : World} {T : Trace} {q : Nat → Nat} {Inb : Nat → Option Tok.Seat} {U : Nat → Prop} {ρ : Env} {γ : Nat → Nat} {a : Goroutine} {m : Machine}

theorem CFr.all' (F : CFr P O base W0 cs st gs w T q Inb U ρ γ a) : ∀ i t, Inb i = some t → ∃ s ∈ st.seats, ∃ cs, SeatIs P O base U ρ cs s t := by
  intro i t e
  obtain ⟨s, hs, rfl⟩ := F.all i t e
  obtain ⟨_, _, t', e', S⟩ := F.seats s hs
  rw [e'] at e
  cases e
  exact ⟨s, hs, _, S⟩

theorem CFr.orc (F : CFr P O base W0 cs st gs w T q Inb U ρ γ a) : O.In U := F.ids.ids.orc

/-- The holder's walk, up to whatever it comes to. -/
theorem CFr.go (F : CFr P O base W0 cs st gs w T q Inb U ρ γ a) {S : Goroutine → World → Prop} {N : Nat} (W : Walk P (γ st.h == 0) (DK (CK P O base st.seats ρ)) S N a w) (sl : Option (Nat × Nat)) :
    ∃ M gs' a' w' sl' T' q', runNT P M (crowd gs w sl) T = (.next (crowd gs' w' sl'), T') ∧ gs'.size = gs.size ∧ gs'[γ st.h]? = some a' ∧ S a' w' ∧ Tok.Core P Inb (γ st.h) st.deaf T' gs' w' q' :=
  Tok.hold_walk (DK_hold F.mem F.all') W F.here F.core

theorem Keeps.out {seats : List ASeat} {w' : World} (h : Keeps (CK P O base seats ρ).own w w') : Keeps (fun n => base ≤ n) w w' := h.mono fun n hn => hn.1

theorem crew_call (X : CrewSound P O ext sum) {seats : List ASeat} (hm : ∀ p ∈ O.mem, (p.1.ev ρ).block < base) {main : Bool} {f : Nat} {c : ACfg} {r : ACfg ⊕ (AE × AH)} (hs : step? P O ext (fun g args h => match sum g args h with
      | some r => r
      | none => match enterA P g args .normal with
        | .ok fr => run? P O ext sum f ⟨fr, [], h⟩
        | .error e => .error e) c = .ok r) : StepPost (CK P O base seats ρ) main c r := by
  have Gd := CK_good (P := P) (seats := seats) hm
  have F0 : (CK P O base seats ρ).Facts := X.facts (CK P O base seats ρ).own (CK P O base seats ρ).Ev (CK P O base seats ρ).lock (CK P O base seats ρ).still
  have X0 : ExtOk (CK P O base seats ρ) ext := X.ext (CK P O base seats ρ).own (CK P O base seats ρ).Ev (CK P O base seats ρ).lock (CK P O base seats ρ).still Gd
  have Z0 : SumOk (CK P O base seats ρ) main sum := X.sum (CK P O base seats ρ).own (CK P O base seats ρ).Ev (CK P O base seats ρ).lock (CK P O base seats ρ).still main Gd
  exact step_ok (K := CK P O base seats ρ) (main := main) Gd F0 X0 (callOk_of (K := CK P O base seats ρ) Z0 (k := run? P O ext sum f) (run_ok (K := CK P O base seats ρ) Gd F0 X0 Z0)) hs

theorem cinv_walk (X : CrewSound P O ext sum) {f : Nat} {c' : ACfg} (hs : step? P O ext (fun g args h => match sum g args h with
      | some r => r
      | none => match enterA P g args .normal with
        | .ok fr => run? P O ext sum f ⟨fr, [], h⟩
        | .error e => .error e) st.c = .ok (.inl c')) (I : CInv P O base W0 cs st m T) : ∃ N m' T', runNT P N m T = (.next m', T') ∧ CInv P O base W0 cs { st with c := c' } m' T' := by
  obtain ⟨gs, w, sl, q, Inb, U, ρ, γ, a, rfl, F⟩ := I
  obtain ⟨N, L⟩ := crew_call X (seats := st.seats) (main := γ st.h == 0) F.mem hs
  obtain ⟨M, gs', a', w', sl', T', q', hr, hsz, ha, ⟨ρ', A, kp, gr, hin, Γ⟩, C'⟩ := F.go (L U ρ (csOf P cs st.h) a w F.ids F.gam) sl
  have hO : O.In U := F.orc
  have hseat : ∀ s ∈ st.seats, U s.ch ∧ ∀ p ∈ s.stills, p.1.In U := fun s hs => by
    obtain ⟨_, _, t, _, S⟩ := F.seats s hs
    exact ⟨S.uch, fun p hp => (S.us p hp).1⟩
  have eK : CK P O base st.seats ρ' = CK P O base st.seats ρ := CK_agree A hseat hO
  refine ⟨M, _, T', hr, gs', w', sl', q', Inb, plus U st.c.h.nb c'.h.nb, ρ', γ, a', rfl, ?_⟩
  refine ⟨C', F.zero, F.inj, fun i hi => by rw [hsz]; exact F.lt i hi, F.hlt, ha, by rw [eK]; exact hin, by rw [eK]; exact Γ, fun s hs => ?_, F.all, F.nodup, F.keeps.trans kp.out, fun p hp => ?_⟩
  · obtain ⟨h1, h2, t, e, S⟩ := F.seats s hs
    exact ⟨h1, h2, t, e, S.agree A hO plus_sub⟩
  · rw [AA.ev_agree A (hO.mem p hp).1]; exact F.mem p hp
end

/-! ### A seat taken -/
section
variable {P : Program} {O : Orc} {base : Nat} {ρ : Env} {U : Nat → Prop} {cs : List Frame} {hp : List (Nat × ABlk)} {nb lim : Nat} {seats : List ASeat} {w : World}

theorem reads1_ok {p : AA × AV} (h : reads1 hp p = true) : ∃ i n b v, p.1 = ⟨.dyn i, .lit (.ofNat n)⟩ ∧ findB i hp = some b ∧ b.cs[n]? = some v ∧ b.lendable = true ∧ v = p.2 := by
  unfold reads1 at h
  split at h
  · rename_i i n e
    split at h
    · rename_i b hb
      split at h
      · rename_i v hv
        simp only [Bool.and_eq_true] at h
        exact ⟨i, n, b, v, e, hb, hv, h.1, AV.eqb_eq v p.2 h.2⟩
      · cases h
    · cases h
  · cases h
theorem readsAll_ok : ∀ {l : List (AA × AV)}, readsAll hp l = true → ∀ p ∈ l, reads1 hp p = true
  | q :: l, h, p, hpm => by
    unfold readsAll at h
    split at h
    · rename_i hq
      rcases List.mem_cons.1 hpm with e | hpm
      · subst e; exact hq
      · exact readsAll_ok h p hpm
    · cases h
theorem reads_stills {l : List (AA × AV)} (h : readsAll hp l = true) : stillsAt hp l = true := by
  induction l with
  | nil => rfl
  | cons p l ih =>
    have h1 := readsAll_ok h p (List.mem_cons_self ..)
    have h2 : readsAll hp l = true := by
      unfold readsAll at h
      split at h
      · exact h
      · cases h
    obtain ⟨i, n, b, v, e1, e2, e3, e4, e5⟩ := reads1_ok h1
    unfold stillsAt
    have : stillAt hp p = true := by
      unfold stillAt
      rw [e1]
      simp only [e2]
      exact e4
    rw [this]
    exact ih h2

theorem noExt_ok (K : Ctx) : ExtOk K noExt := by
  intro U ρ h w f args v h' _ _ _ he
  cases he

theorem knows_sound {ext : Ext} {sum : Sums} (X : CrewSound P O ext sum) (l : List (AA × AV)) : Sound P (O.knows l) noExt :=
  ⟨fun own Ev lock still => ⟨(X.facts own Ev lock still).fns, (X.facts own Ev lock still).ext, (X.facts own Ev lock still).mixed⟩, fun own Ev still _ => noExt_ok _⟩
theorem bare_sound {ext : Ext} {sum : Sums} (X : CrewSound P O ext sum) : Sound P O.bare noExt :=
  ⟨fun own Ev lock still => ⟨(X.facts own Ev lock still).fns, (X.facts own Ev lock still).ext, (X.facts own Ev lock still).mixed⟩, fun own Ev still _ => noExt_ok _⟩

/-- The seat that goes with closed data. -/
noncomputable def seatOf (P : Program) (O : Orc) (U : Nat → Prop) (ρ : Env) (cs : List Frame) (B : Nat) (s : ASeat) : Tok.Seat :=
  ⟨ρ.b s.ch, s.z, s.ok, stillOf (O.knows s.stills) ρ, Known (O.knows s.stills) ρ, B, fun g => LIds U s.cfg ∧ LGam P ρ s.cfg cs g⟩

theorem known_at {O' : Orc} {w : World} (k : Known O' ρ w) (d : Nat) : Known O' ρ (w.at d) := ⟨k.bs, k.is, k.mem⟩
theorem known_heap {O' : Orc} {w w' : World} (k : Known O' ρ w) (h : ∀ (n : Nat) o, w.heap[n]? = some o → (∀ k, o ≠ .chan 0 #[] false k k false) → w'.heap[n]? = some o) (hn : ∀ p ∈ O'.mem, ∀ o, w.heap[(p.1.ev ρ).block]? = some o → ∀ k, o ≠ .chan 0 #[] false k k false) : Known O' ρ w' := by
  refine ⟨k.bs, k.is, fun p hp => ?_⟩
  have m2 := k.mem p hp
  simp only [World.cell?] at m2 ⊢
  cases ho : w.heap[(p.1.ev ρ).block]? with
  | none => rw [ho] at m2; cases m2
  | some o =>
    rw [h _ _ ho (hn p hp o ho)]
    rw [ho] at m2
    exact m2

theorem seat_wf (B : Nat) (s : ASeat) : (seatOf P O U ρ cs B s).Wf := by
  refine ⟨fun w d k => known_at k d, fun w c cap buf cl a b tm cap' buf' cl' a' b' tm' hc k => ?_, fun l ⟨p, _, e⟩ => by rw [e]; rfl⟩
  have k' : Known (O.knows s.stills) ρ w := k
  refine ⟨k'.bs, k'.is, fun p hp => ?_⟩
  have m2 := k'.mem p hp
  by_cases e : c = (p.1.ev ρ).block
  · simp only [World.cell?] at m2
    rw [← e, hc] at m2
    cases m2
  · simp only [World.cell?] at m2 ⊢
    rw [heap_setChan_ne w _ _ _ _ _ _ e]
    exact m2

/-- What closed data say of a seat, in memory. -/
theorem seat_known (R : Rel (CK P O base seats ρ) ρ ⟨hp, nb, lim⟩ w) {l : List (AA × AV)} (h : readsAll hp l = true) : Known (O.knows l) ρ w := by
  refine ⟨R.bs, R.is, fun p hpm => ?_⟩
  rcases List.mem_append.1 hpm with h1 | h1
  · obtain ⟨i, n, b, v, e1, e2, e3, e4, e5⟩ := reads1_ok (readsAll_ok h p h1)
    obtain ⟨arr, ha, hf⟩ := R.arr e2 (isMem_get e3)
    rw [e1, ← e5]
    rw [show AA.ev ρ ⟨.dyn i, .lit (.ofNat n)⟩ = ⟨ρ.b i, n, none⟩ from rfl, cell?_of ha]
    exact fits_get hf e3
  · exact (R.mem p h1).2.1

theorem seat_in (I : Ids (CK P O base seats ρ) U ⟨hp, nb, lim⟩) {l : List (AA × AV)} (h : readsAll hp l = true) : ∀ p ∈ l, p.1.In U ∧ p.2.In U := by
  intro p hpm
  obtain ⟨i, n, b, v, e1, e2, e3, e4, e5⟩ := reads1_ok (readsAll_ok h p hpm)
  refine ⟨by rw [e1]; exact ⟨I.keys i (findB_key e2), trivial⟩, ?_⟩
  rw [← e5]
  have hb := I.hp i b e2
  have : AV.Ins U b.cs := by
    cases b with
    | cells cs e => exact hb
    | lent cs e l => exact hb
    | _ => cases e4
  exact Ins_iff.1 this _ (List.mem_of_getElem? e3)

theorem seat_is (R : Rel (CK P O base seats ρ) ρ ⟨hp, nb, lim⟩ w) (I : Ids (CK P O base seats ρ) U ⟨hp, nb, lim⟩) (B : Nat) {s : ASeat} (hr : readsAll hp s.stills = true) (hc : findB s.ch hp = some .chan) (hge : base ≤ ρ.b s.ch) :
    SeatIs P O base U ρ cs s (seatOf P O U ρ cs B s) := by
  refine ⟨rfl, hge, rfl, rfl, fun l ⟨p, hp, e⟩ => ⟨p, hp, e⟩, fun w' => ⟨fun k p hp => ?_, fun k => ⟨R.bs, R.is, fun p hp => k p hp⟩⟩, fun g h => h, I.keys _ (findB_key hc), seat_in I hr⟩
  have k' : Known (O.knows s.stills) ρ w' := k
  exact k'.mem p hp
end
end Go.Proofs.YtmnahfonnljobaaGreatDoor.SX
/-
  The crew, sound: the holder's send.
-/
set_option linter.unusedSectionVars false
set_option linter.unusedVariables false
set_option linter.unusedSimpArgs false
namespace Go.Proofs.YtmnahfonnljobaaGreatDoor.SX
open Go.Conc

theorem opAt_ok {c : ACfg} {o : Oper} (h : opAt c = some o) : ∃ fn nt tmps ops i rest k defers kind callers hh, c = ⟨⟨fn, nt, tmps, .inRegion ops (i :: rest) :: k, defers, .run, kind⟩, callers, hh⟩ ∧ ops[i]? = some o ∧ o.guard = none ∧ tagged kind = false := by
  unfold opAt at h
  split at h
  · rename_i fn nt tmps ops i rest k defers kind callers hh
    split at h
    · cases h
    rename_i ht
    split at h
    · rename_i o' ho
      split at h
      · rename_i hg
        cases h
        exact ⟨_, _, _, _, _, _, _, _, _, _, _, rfl, ho, hg, ht⟩
      · cases h
    · cases h
  · cases h

theorem takes_ok {ch : Nat} {s : ASeat} : ∀ {l r : List ASeat}, takes ch l = some (s, r) → s.ch = ch ∧ l.Perm (s :: r)
  | q :: l, r, h => by
    unfold takes at h
    split at h
    · rename_i e
      cases h
      exact ⟨Nat.eq_of_beq_eq_true e, List.Perm.refl _⟩
    · split at h
      · rename_i t r' h'
        cases h
        obtain ⟨h1, h2⟩ := takes_ok h'
        exact ⟨h1, (h2.cons q).trans (List.Perm.swap s q r')⟩
      · cases h

theorem apartOf_ok {i ch : Nat} : ∀ {l : List ASeat}, apartOf i ch l = true → ∀ s ∈ l, s.ch ≠ ch ∧ s.id ≠ i
  | q :: l, h, s, hs => by
    unfold apartOf at h
    split at h
    · rename_i h1 h2
      rcases List.mem_cons.1 hs with e | hs
      · subst e
        exact ⟨fun e => by rw [e] at h1; simp at h1, fun e => by rw [e] at h2; simp at h2⟩
      · exact apartOf_ok h s hs
    · cases h

section
variable {P : Program} {O : Orc} {ext : Ext} {sum : Sums} {base : Nat} {W0 : World} {cs : List Frame} {st : CSt} {gs : Array Goroutine} {w : World} {T : Trace} {q : Nat → Nat} {Inb : Nat → Option Tok.Seat} {U : Nat → Prop} {ρ : Env} {γ : Nat → Nat} {a : Goroutine} {m : Machine}

theorem chan_there {seats : List ASeat} {hp : List (Nat × ABlk)} {nb lim : Nat} (R : Rel (CK P O base seats ρ) ρ ⟨hp, nb, lim⟩ w) {i : Nat} (h : findB i hp = some .chan) : ∃ k, w.heap[ρ.b i]? = some (.chan 0 #[] false k k false) := by
  obtain ⟨o, ho, hi⟩ := R.blk _ _ h
  rcases hi with ⟨arr, _, hf⟩ | ⟨k, e⟩
  · exact hf.elim
  · exact ⟨k, by rw [ho, e]⟩

theorem seat_eq {hp : List (Nat × ABlk)} {i n : Nat} {c : ACfg} {s : ASeat} (h : seat? P O hp i c = .ok (n, s)) : s.id = i ∧ lrun? P (O.knows s.stills) noExt n c = .ok s.cfg ∧ recvAt? P s.cfg = some (.dyn s.ch, s.z, s.ok) := by
  unfold seat? at h
  split at h
  · cases h
  · split at h
    · cases h
    · rename_i c' hl
      split at h
      · rename_i ch z ok hr
        cases h
        exact ⟨rfl, hl, hr⟩
      · cases h

theorem knows_in {l : List (AA × AV)} (hO : O.In U) (hl : ∀ p ∈ l, p.1.In U ∧ p.2.In U) : (O.knows l).In U :=
  ⟨hO.bs, hO.is, fun p hp => (List.mem_append.1 hp).elim (hl p) (hO.mem p)⟩
theorem bare_in : O.bare.In U := ⟨fun p hp => (by cases hp), fun p hp => (by cases hp), fun p hp => (by cases hp)⟩

/-- One that goes its way to its seat. -/
theorem seat_sits (X : CrewSound P O ext sum) {seats : List ASeat} {hp : List (Nat × ABlk)} {nb lim : Nat} (R : Rel (CK P O base seats ρ) ρ ⟨hp, nb, lim⟩ w) (I : Ids (CK P O base seats ρ) U ⟨hp, nb, lim⟩) {i n : Nat} {c : ACfg} {s : ASeat} (h : seat? P O hp i c = .ok (n, s)) (hr : readsAll hp s.stills = true)
    (IL : LIds U c) {cs : List Frame} {g : Goroutine} (Γ : LGam P ρ c cs g) (main : Bool) : Sits P main (seatOf P O U ρ cs w.heap.size s).keep (seatOf P O U ρ cs w.heap.size s).still w.heap.size (seatOf P O U ρ cs w.heap.size s).base (n + 1) g := by
  obtain ⟨_, h1, h2⟩ := seat_eq h
  have k := seat_known R hr
  have hB : ∀ p ∈ (O.knows s.stills).mem, (p.1.ev ρ).block < w.heap.size := fun p hp => cell_lt (k.mem p hp)
  exact sits_of (main := main) (knows_sound X s.stills) (knows_in I.orc (seat_in I hr)) hB h1 h2 IL Γ k

theorem seat_fresh {seats : List ASeat} {hp : List (Nat × ABlk)} {nb lim : Nat} (R : Rel (CK P O base seats ρ) ρ ⟨hp, nb, lim⟩ w) (all : ∀ i t, Inb i = some t → ∃ s ∈ seats, ∃ cs, SeatIs P O base U ρ cs s t) (hok : seatsOk hp seats = true) {cs : List Frame} {s : ASeat} {i B : Nat} (hc : findB s.ch hp = some .chan) (hr : readsAll hp s.stills = true) (ha : apartOf i s.ch seats = true) :
    Tok.Fresh Inb w (seatOf P O U ρ cs B s) := by
  refine ⟨seat_wf _ s, seat_known R hr, chan_there R hc, fun j t e ec => ?_⟩
  obtain ⟨s2, hs2, cs2, S⟩ := all j t e
  have e2 : ρ.b s2.ch = ρ.b s.ch := S.c.symm.trans ec
  exact (apartOf_ok ha s2 hs2).1 (R.inj _ _ _ _ (seatsOk_ok hok s2 hs2).1 hc e2)

theorem size_setChan (w : World) (c cap : Nat) (buf : Array Value) (cl : Bool) (s r : Nat) (tm : Bool) : (w.setChan c cap buf cl s r tm).heap.size = w.heap.size := by
  simp [World.setChan]

/-- Behind a meeting. -/
theorem cinv_given {s : ASeat} {rest : List ASeat} {cur : AFrame} {callers : List AFrame} {hp : List (Nat × ABlk)} {nb lim h next : Nat} {seats seats' : List ASeat} (F : CFr P O base W0 cs ⟨h, ⟨cur, callers, ⟨hp, nb, lim⟩⟩, seats, next, 0⟩ gs w T q Inb U ρ γ a) (hperm : seats.Perm (s :: rest)) {t : Tok.Seat} (ht : Inb (γ s.id) = some t) (S : SeatIs P O base U ρ (csOf P cs s.id) s t)
    {tk : AFrame} {y : AV} (hy : y.In U) (hf : finishA s.cfg.cur (recvdA s.ok y) = .ok tk) (hok : seatsOk hp seats = true) {so : Option Tok.Seat} (hnew : (so = none ∧ seats' = rest) ∨ ∃ s' t', so = some t' ∧ seats' = s' :: rest ∧ s'.id = h ∧ findB s'.ch hp = some .chan ∧ stillsAt hp s'.stills = true ∧ SeatIs P O base U ρ (csOf P cs h) s' t')
    {m' : Machine} {T' : Trace} (G : Tok.Given P (Tok.pass Inb (γ h) (γ s.id) so) (γ s.id) t gs.size w (y.ev ρ) m' T') : CInv P O base W0 cs ⟨s.id, ⟨tk, s.cfg.callers, ⟨relabel seats' hp, nb, lim⟩⟩, seats', next, 0⟩ m' T' := by
  obtain ⟨gs', g₂, d, k, sl', q', rfl, hsz, hJ, hhome, hc, C'⟩ := G
  obtain ⟨IL, Γ⟩ := S.home g₂ hhome
  have hsm : s ∈ seats := hperm.mem_iff.2 (List.mem_cons_self ..)
  have hrm : ∀ x ∈ rest, x ∈ seats := fun x hx => hperm.mem_iff.2 (List.mem_cons_of_mem _ hx)
  have hnd : (s.id :: rest.map ASeat.id).Nodup := (hperm.map ASeat.id).nodup_iff.1 F.nodup
  have hv : (recvdA s.ok y).In U := by
    cases s.ok with
    | true => exact ⟨hy, trivial, trivial⟩
    | false => exact hy
  have hev : (recvdA s.ok y).ev ρ = recvd t.ok (y.ev ρ) true := by
    rw [S.ok]
    cases s.ok <;> rfl
  obtain ⟨IL', Γ'⟩ := served_ok Γ IL hv hf e0
  rw [hev] at Γ'
  obtain ⟨fr, frs, hfr, hfrs, hg⟩ := Γ'
  have R := F.gam.1
  have hgeS : ∀ x ∈ seats, base ≤ ρ.b x.ch := fun x hx => by
    obtain ⟨_, _, t2, _, S2⟩ := F.seats x hx
    exact S2.ge
  have hok' : seatsOk hp seats' = true := seatsOk_mk fun x hx => by
    rcases hnew with ⟨_, rfl⟩ | ⟨s', t', _, rfl, _, h1, h2, _⟩
    · exact seatsOk_ok hok x (hrm x hx)
    · rcases List.mem_cons.1 hx with rfl | hx
      · exact ⟨h1, h2⟩
      · exact seatsOk_ok hok x (hrm x hx)
  have hsh := F.seats s hsm
  have hne : ∀ x ∈ rest, γ x.id ≠ γ s.id ∧ γ x.id ≠ γ h := fun x hx => by
    have hx' := F.seats x (hrm x hx)
    exact ⟨fun e => (List.nodup_cons.1 hnd).1 (List.mem_map.2 ⟨x, hx, F.inj _ _ hx'.1 hsh.1 e⟩), fun e => hx'.2.1 (F.inj _ _ hx'.1 F.hlt e)⟩
  have hhs : γ s.id ≠ γ h := fun e => hsh.2.1 (F.inj _ _ hsh.1 F.hlt e)
  have hbase : base ≤ t.c := by rw [S.c]; exact S.ge
  refine ⟨gs', _, sl', q', _, U, ρ, γ, _, rfl, C', F.zero, F.inj, fun i hi => by rw [hsz]; exact F.lt i hi, hsh.1, hJ, ⟨IL'.cur, IL'.callers, ids_move F.ids.ids⟩, ⟨?_, fr, frs, hfr, hfrs, hg⟩, fun x hx => ?_, fun i t2 e => ?_, ?_, F.keeps.trans ⟨fun n hn => ?_, ?_, rfl, rfl, rfl⟩, F.mem⟩
  · refine rel_move R (size_setChan _ _ _ _ _ _ _ _) (fun n => ?_) F.mem hgeS hok hok'
    by_cases e : t.c = n
    · subst e
      exact .inr ⟨⟨k, hc⟩, ⟨k + 1, heap_setChan_self (w.at d) (c := t.c) hc _ _ _ _ _ _⟩⟩
    · exact .inl (heap_setChan_ne (w.at d) _ _ _ _ _ _ e)
  · have old : ∀ x ∈ rest, x.id < next ∧ x.id ≠ s.id ∧ ∃ t2, Tok.pass Inb (γ h) (γ s.id) so (γ x.id) = some t2 ∧ SeatIs P O base U ρ (csOf P cs x.id) x t2 := fun x hx => by
      obtain ⟨h1, h2, t2, e, S2⟩ := F.seats x (hrm x hx)
      exact ⟨h1, fun e => (hne x hx).1 (by rw [e]), t2, by rw [Tok.pass_ne Inb so (hne x hx).1 (hne x hx).2]; exact e, S2⟩
    rcases hnew with ⟨_, rfl⟩ | ⟨s', t', rfl, rfl, h0, h1, h2, S'⟩
    · exact old x hx
    · rcases List.mem_cons.1 hx with rfl | hx
      · refine ⟨by rw [h0]; exact F.hlt, by rw [h0]; exact fun e => hsh.2.1 e.symm, t', ?_, by rw [h0]; exact S'⟩
        rw [h0]; exact Tok.pass_h Inb hhs _
      · exact old x hx
  · unfold Tok.pass at e
    split at e
    · cases e
    · rename_i hi
      split at e
      · rename_i hih
        rcases hnew with ⟨rfl, rfl⟩ | ⟨s', t', rfl, rfl, h0, _⟩
        · cases e
        · exact ⟨s', List.mem_cons_self .., by rw [h0]; exact hih⟩
      · obtain ⟨x, hx, rfl⟩ := F.all i t2 e
        have hx' : x ∈ rest := by
          rcases List.mem_cons.1 (hperm.mem_iff.1 hx) with rfl | hx'
          · exact absurd rfl hi
          · exact hx'
        refine ⟨x, ?_, rfl⟩
        rcases hnew with ⟨_, rfl⟩ | ⟨s', t', _, rfl, _⟩
        · exact hx'
        · exact List.mem_cons_of_mem _ hx'
  · rcases hnew with ⟨_, rfl⟩ | ⟨s', t', _, rfl, h0, _⟩
    · exact (List.nodup_cons.1 hnd).2
    · refine List.nodup_cons.2 ⟨fun hm => ?_, (List.nodup_cons.1 hnd).2⟩
      obtain ⟨x, hx, e⟩ := List.mem_map.1 hm
      exact (F.seats x (hrm x hx)).2.1 (e.trans h0)
  · exact heap_setChan_ne (w.at d) _ _ _ _ _ _ (fun e => hn (by rw [← e]; exact hbase))
  · rw [size_setChan]; exact Nat.le_refl _

theorem cinv_give (X : CrewSound P O ext sum) {x y : Operand} {o : Oper} (ho : opAt st.c = some o) (hop : o.op = .send x y) {st' : CSt} (hg : give? P O x y st = .ok st') (I : CInv P O base W0 cs st m T) : ∃ N m' T', runNT P N m T = (.next m', T') ∧ CInv P O base W0 cs st' m' T' := by
  obtain ⟨gs, w, sl, q, Inb, U, ρ, γ, a, rfl, F⟩ := I
  obtain ⟨h, ⟨cur, callers, ⟨hp, nb, lim⟩⟩, seats, next, deaf⟩ := st
  obtain ⟨fn, nt, tmps, ops, i, rst, k, defers, kind, callers', hh, e, hoi, hgd, htg⟩ := opAt_ok ho
  cases e
  have Γ : LGam P ρ ⟨⟨fn, nt, tmps, .inRegion ops (i :: rst) :: k, defers, .run, kind⟩, callers, ⟨hp, nb, lim⟩⟩ (csOf P cs h) a := F.gam.2
  have IL : LIds U ⟨⟨fn, nt, tmps, .inRegion ops (i :: rst) :: k, defers, .run, kind⟩, callers, ⟨hp, nb, lim⟩⟩ := ⟨F.ids.cur, F.ids.callers⟩
  have R := F.gam.1
  obtain ⟨tm, frs, h1, h2, h3, hc, ea⟩ := (lg_run htg).1 Γ
  have hw : Region.wanted o (yielded ops tm) = true := by unfold Region.wanted; rw [hgd]
  have hke : (mkF fn kind).kind ≠ .early := by rcases h2 with rfl | rfl <;> simp [mkF]
  unfold give? at hg
  dsimp only at hg
  split at hg
  · rename_i ch hx
    split at hg
    · cases hg
    · rename_i s rest htk
      obtain ⟨hsch, hperm⟩ := takes_ok htk
      have hsm : s ∈ seats := hperm.mem_iff.2 (List.mem_cons_self ..)
      obtain ⟨hs1, hs2, t, ht, S⟩ := F.seats s hsm
      split at hg
      · rename_i tk gv hft hfg
        have hR : ∀ w es, (execOp (⟨tm, defers.map (AD.ev ρ)⟩ : Act).eval o).runT P w es = (.ok (.comm #[scase t.c ((evalA tmps y).ev ρ) (.tuple #[])] true .send) w, es) := by
          intro w es
          unfold execOp
          rw [hop]
          have e1 : (⟨tm, defers.map (AD.ev ρ)⟩ : Act).eval x = .chan (some t.c) := by rw [evalA_ev h1, hx, S.c, hsch]; rfl
          have e2 : (⟨tm, defers.map (AD.ev ρ)⟩ : Act).eval y = (evalA tmps y).ev ρ := evalA_ev h1 _ y
          dsimp only
          rw [e1, e2]
          rfl
        have hsend : ∀ d, stepG P (γ h == 0) a (w.at d) = .comm a #[scase t.c ((evalA tmps y).ev ρ) (.tuple #[])] true .send (w.at d) #[] := by
          intro d
          have r1 : (execOp (⟨tm, defers.map (AD.ev ρ)⟩ : Act).eval o).run P (w.at d) = .ok (.comm #[scase t.c ((evalA tmps y).ev ρ) (.tuple #[])] true .send) (w.at d) := by
            have := congrArg Prod.fst (hR (w.at d) #[])
            rw [Sem.runT_fst] at this
            exact this
          rw [ea, stepG_comm hoi hw hke r1, listed_none (congrArg Prod.snd (hR (w.at d) #[]))]
        have hrun : a.status = .running := by rw [ea]; rfl
        have hjh : γ s.id ≠ γ h := fun e => hs2 (F.inj _ _ hs1 F.hlt e)
        have hyU : (evalA tmps y).In U := evalA_in IL.cur.tmps y
        obtain ⟨ILg, Γg⟩ := served_ok Γ IL (v := undefA) (by simp [undefA, AV.In, AV.Ins]) hfg e0
        have Γg' : LGam P ρ ⟨gv, callers, e0⟩ (csOf P cs h) (Conc.served a undef) := Γg
        have give := fun {so : Option Tok.Seat} {nh : Nat} (hso : ∀ s', so = some s' → Tok.Fresh Inb w s') (hafter : ∀ T', Deaf T' (γ h) = 0 → Tok.Rest P T' (γ h) nh (Conc.served a undef) so) =>
          Tok.give (P := P) (j := γ s.id) (s := t) (sl := sl) hjh (F.lt _ hs1) ht F.here hrun hsend (by simp) F.core hso hafter
        split at hg
        · rename_i hl
          split at hg
          · rename_i hok
            cases hg
            have hh0 : h ≠ 0 := fun e => by subst e; simp at hl
            have hl' : leave? P O.bare noExt 400 ⟨gv, callers, e0⟩ = true := by
              have : Nat.beq h 0 = false := by
                cases hb : Nat.beq h 0 with
                | false => rfl
                | true => exact absurd (Nat.eq_of_beq_eq_true hb) hh0
              rw [this] at hl
              exact hl
            have ecs : csOf P cs h = [baseF P] := by unfold csOf; rw [if_neg hh0]
            rw [ecs] at Γg'
            obtain ⟨mq, hq⟩ := leave_quits (O := O.bare) rfl rfl rfl (bare_sound X) bare_in hl' ILg Γg'
            have hpos : 0 < γ h := by
              rcases Nat.eq_zero_or_pos (γ h) with e | e
              · exact absurd (F.inj h 0 F.hlt (Nat.lt_of_le_of_lt (Nat.zero_le _) F.hlt) (e.trans F.zero.symm)) hh0
              · exact e
            obtain ⟨N, m', T', hr, hG⟩ := give (so := none) (nh := mq) (fun s' e => by cases e) (fun T' hD => ⟨hpos, by rw [hD]; exact hq⟩)
            exact ⟨N, m', T', hr, cinv_given F hperm ht S hyU hft hok (.inl ⟨rfl, rfl⟩) hG⟩
          · cases hg
        · split at hg
          · cases hg
          · rename_i ns s' hse
            split at hg
            · rename_i hok hch hrd hap
              cases hg
              have hid := (seat_eq hse).1
              have hch' := isChanAt_ok hch
              have hgeS : ∀ x ∈ seats, base ≤ ρ.b x.ch := fun x hx => by
                obtain ⟨_, _, t2, _, S2⟩ := F.seats x hx
                exact S2.ge
              obtain ⟨N, m', T', hr, hG⟩ := give (so := some (seatOf P O U ρ (csOf P cs h) w.heap.size s')) (nh := ns + 1) (fun t' e => by cases e; exact seat_fresh R F.all' hok hch' hrd hap)
                (fun T' hD => seat_sits X R F.ids.ids hse hrd ILg Γg' _)
              exact ⟨N, m', T', hr, cinv_given F hperm ht S hyU hft hok (.inr ⟨s', _, rfl, rfl, hid, hch', reads_stills hrd, seat_is R F.ids.ids _ hrd hch' (rel_ge R hgeS hok hch')⟩) hG⟩
            · cases hg
      · cases hg
  · cases hg
end
end Go.Proofs.YtmnahfonnljobaaGreatDoor.SX
/-
  The crew, sound: the holder's go statement; a step of the crew.
-/
set_option linter.unusedSectionVars false
set_option linter.unusedVariables false
set_option linter.unusedSimpArgs false
namespace Go.Proofs.YtmnahfonnljobaaGreatDoor.SX
open Go.Conc
open Go.ConcN (sumTo upd sumTo_upd upd_ne upd_same)

section
variable {P : Program} {O : Orc} {ext : Ext} {sum : Sums} {base : Nat} {W0 : World} {cs : List Frame} {st : CSt} {gs : Array Goroutine} {w : World} {T : Trace} {q : Nat → Nat} {Inb : Nat → Option Tok.Seat} {U : Nat → Prop} {ρ : Env} {γ : Nat → Nat} {a : Goroutine} {m : Machine}

theorem quiet_run {α : Type} {s : Sem α} {v : α} {w : World} (h : wq P (fun _ => False) (fun _ _ => False) s (fun x w' => x = v ∧ w' = w) w) : s.run P w = .ok v w ∧ s.events P w #[] = #[] := by
  obtain ⟨h1, h2⟩ := wq_run h
  refine ⟨?_, ?_⟩
  · generalize s.run P w = r at h1
    cases r with
    | ok x w' => obtain ⟨rfl, rfl⟩ := h1; rfl
    | halt x w' => cases x <;> exact h1.elim
  · rcases Nat.eq_zero_or_pos (s.events P w #[]).size with h0 | h0
    · exact Array.eq_empty_of_size_eq_zero h0
    · exact (h2 _ (Array.getElem_mem h0)).elim

theorem born_step {f : FuncId} {cap args : Array Value} (hf : fnOk P f = true) (main : Bool) (w : World) :
    stepG P main (born P { target := .fn (.func f) cap, args := args }) w = .go (G (Frame.enter P f (args ++ cap) .deferred) [baseF P]) w #[] := by
  obtain ⟨h1, h2⟩ := quiet_run (P := P) (s := invoke (.fn (.func f) cap) args) (v := .enter f (args ++ cap)) (w := w) (by
    show wq P _ _ (callFunc f (args ++ cap)) _ w
    exact wq_enter (K := ⟨P, {}, fun _ => True, fun _ => False, False, fun _ _ => False⟩) hf ⟨rfl, rfl⟩)
  have e1 := stepG_deferred (P := P) (main := main) (fr := { (default : Frame) with fn := P.funcs.size, defers := [{ target := .fn (.func f) cap, args := args }], mode := .panicking [goexitEntry] }) (cs := []) (w := w) (D := { target := .fn (.func f) cap, args := args }) (Ds := []) (fun e => by cases e) rfl (.inl ⟨_, _, rfl⟩)
  have e2 := callDeferred_enter (P := P) (fr := baseF P) (cs := []) (w := w) (w' := w) (D := { target := .fn (.func f) cap, args := args }) (f := f) (args := args ++ cap) (.inl ⟨_, _, rfl⟩) h1
  rw [h2, seen_none] at e2
  exact e1.trans e2

theorem sits_born {K : World → Prop} {Still : Loc → Prop} {B : Nat} {s : Conc.Seat} {n : Nat} {f : FuncId} {cap args : Array Value} (hf : fnOk P f = true) (h : Sits P false K Still B s (n + 1) (G (Frame.enter P f (args ++ cap) .deferred) [baseF P])) :
    Sits P false K Still B s (n + 1 + 1) (born P { target := .fn (.func f) cap, args := args }) := by
  rcases h with ⟨k, w₀, hk, hG⟩ | ⟨h0, _⟩
  · obtain rfl : k = n := by omega
    refine .inl ⟨k + 1, w₀, rfl, .inr ⟨rfl, fun w₁ hw => ?_⟩⟩
    rw [born_step hf, goes_go]
    refine ⟨⟨rfl, by simp⟩, ?_⟩
    cases k with
    | zero => exact hG
    | succ k => exact hG
  · omega

theorem cinv_hire (X : CrewSound P O ext sum) {call : Call} {o : Oper} (ho : opAt st.c = some o) (hop : o.op = .go call) {st' : CSt} (hg : hire? P O call o.type st = .ok st') (I : CInv P O base W0 cs st m T) : ∃ N m' T', runNT P N m T = (.next m', T') ∧ CInv P O base W0 cs st' m' T' := by
  obtain ⟨gs, w, sl, q, Inb, U, ρ, γ, a, rfl, F⟩ := I
  obtain ⟨h, ⟨cur, callers, ⟨hp, nb, lim⟩⟩, seats, next, deaf⟩ := st
  obtain ⟨fn, nt, tmps, ops, i, rst, k, defers, kind, callers', hh, e, hoi, hgd, htg⟩ := opAt_ok ho
  cases e
  have Γ : LGam P ρ ⟨⟨fn, nt, tmps, .inRegion ops (i :: rst) :: k, defers, .run, kind⟩, callers, ⟨hp, nb, lim⟩⟩ (csOf P cs h) a := F.gam.2
  have IL : LIds U ⟨⟨fn, nt, tmps, .inRegion ops (i :: rst) :: k, defers, .run, kind⟩, callers, ⟨hp, nb, lim⟩⟩ := ⟨F.ids.cur, F.ids.callers⟩
  have R := F.gam.1
  obtain ⟨tm, frs, h1, h2, h3, hc, ea⟩ := (lg_run htg).1 Γ
  have hw : Region.wanted o (yielded ops tm) = true := by unfold Region.wanted; rw [hgd]
  have hke : (mkF fn kind).kind ≠ .early := by rcases h2 with rfl | rfl <;> simp [mkF]
  unfold hire? at hg
  dsimp only at hg
  split at hg
  · rename_i f cap args hres
    split at hg
    · rename_i fr gv hfn hen hfg
      split at hg
      · cases hg
      · rename_i ns s' hse
        split at hg
        · rename_i hok hch hrd hap
          cases hg
          have hid := (seat_eq hse).1
          have hch' := isChanAt_ok hch
          have hfo : fnOk P f = true := by
            have F0 := (X.facts (fun _ => True) (fun _ => True) True (fun _ _ => False)).fns
            exact List.all_eq_true.1 F0 f (by simpa using hfn)
          have hd : (⟨.fn (.func f) cap, args⟩ : AD).In U := resolve?_in hres (fun x => evalA_in IL.cur.tmps x)
          have hins : AV.Ins U (args ++ cap) := Ins_iff.2 fun v hv => (List.mem_append.1 hv).elim (Ins_iff.1 hd.2 v) (Ins_iff.1 hd.1 v)
          have hev : (⟨tm, defers.map (AD.ev ρ)⟩ : Act).eval = fun x => (evalA tmps x).ev ρ := funext fun x => evalA_ev h1 _ x
          have hq : ∀ w : World, (execOp (⟨tm, defers.map (AD.ev ρ)⟩ : Act).eval o).run P w = .ok (.spawn ((⟨.fn (.func f) cap, args⟩ : AD).ev ρ)) w ∧ (execOp (⟨tm, defers.map (AD.ev ρ)⟩ : Act).eval o).events P w #[] = #[] := fun w => by
            refine quiet_run ?_
            rw [hev]
            unfold execOp
            rw [hop]
            show wq P _ _ (resolve (fun x => (evalA tmps x).ev ρ) call o.type >>= fun d => pure (Go.Next.spawn d)) _ w
            rw [wq_bind]
            exact wq_resolve (K := ⟨P, {}, fun _ => True, fun _ => False, False, fun _ _ => False⟩) hres ⟨rfl, rfl⟩
          have hgo : ∀ d, stepG P (γ h == 0) a (w.at d) = .spawn (G ((mkF fn kind).at ((⟨tm, defers.map (AD.ev ρ)⟩ : Act).put o.dst undef) (.inRegion ops rst :: k)) (frs ++ csOf P cs h)) (born P ((⟨.fn (.func f) cap, args⟩ : AD).ev ρ)) (w.at d) #[] := fun d => by
            rw [ea, stepG_spawn hoi hw hke (hq (w.at d)).1 rfl, listed_none (hq (w.at d)).2]
          have hrun : a.status = .running := by rw [ea]; rfl
          have hgeS : ∀ x ∈ seats, base ≤ ρ.b x.ch := fun x hx => by
            obtain ⟨_, _, t2, _, S2⟩ := F.seats x hx
            exact S2.ge
          have hn0 : next ≠ 0 := fun e => by have := F.hlt; dsimp only at this; omega
          have ecs : csOf P cs next = [baseF P] := by unfold csOf; rw [if_neg hn0]
          obtain ⟨en1, en2, en3, en4, en5⟩ := enterA_ok hen (.inr rfl) hins (ρ := ρ)
          have ILc : LIds U ⟨fr, [], e0⟩ := ⟨en2, fun _ x => by (simp at x)⟩
          have Γc : LGam P ρ ⟨fr, [], e0⟩ [baseF P] (G (Frame.enter P f (AV.evs ρ (args ++ cap)).toArray .deferred) [baseF P]) := ⟨_, [], en1, trivial, rfl⟩
          have hS := seat_sits X R F.ids.ids hse hrd ILc Γc false
          have eargs : (AV.evs ρ (args ++ cap)).toArray = (AV.evs ρ args).toArray ++ (AV.evs ρ cap).toArray := by simp [evs_append]
          rw [eargs] at hS
          have hS' := sits_born hfo hS
          obtain ⟨N, gs', d, sl', T', q', hr, hsz, ha, C'⟩ := Tok.hire (P := P) (sl := sl) F.here hrun hgo (by simp) F.core (seatOf P O U ρ [baseF P] w.heap.size s') (seat_fresh R F.all' hok hch' hrd hap) hS'
          obtain ⟨ILg, Γg⟩ := served_ok Γ IL (v := undefA) (by simp [undefA, AV.In, AV.Ins]) hfg e0
          have eserved : Conc.served a (undefA.ev ρ) = G ((mkF fn kind).at ((⟨tm, defers.map (AD.ev ρ)⟩ : Act).put o.dst undef) (.inRegion ops rst :: k)) (frs ++ csOf P cs h) := by
            rw [ea]
            show { G ((mkF fn kind).at ⟨tm, defers.map (AD.ev ρ)⟩ (.inRegion ops (i :: rst) :: k)) (frs ++ csOf P cs h) with frame := ((mkF fn kind).at ⟨tm, defers.map (AD.ev ρ)⟩ (.inRegion ops (i :: rst) :: k)).finish undef, status := .running, offers := none } = _
            rw [Frame.finish_at, hoi]
            rfl
          rw [eserved] at Γg
          obtain ⟨frg, frsg, g1, g2, g3⟩ := Γg
          have hγ : ∀ x, x < next → upd γ next gs.size x = γ x := fun x hx => upd_ne γ _ (by omega)
          have hI : ∀ x, x < next → upd Inb gs.size (some (seatOf P O U ρ [baseF P] w.heap.size s')) (γ x) = Inb (γ x) := fun x hx => upd_ne Inb _ (by have := F.lt x hx; omega)
          have hlt0 : 0 < next := Nat.pos_of_ne_zero hn0
          have hok' : seatsOk hp (s' :: seats) = true := seatsOk_mk fun x hx => by
            rcases List.mem_cons.1 hx with rfl | hx
            · exact ⟨hch', reads_stills hrd⟩
            · exact seatsOk_ok hok x hx
          have hhl : h < next := F.hlt
          refine ⟨N, _, T', hr, gs', w.at d, sl', q', upd Inb gs.size (some (seatOf P O U ρ [baseF P] w.heap.size s')), U, ρ, upd γ next gs.size, _, rfl, ⟨?_, by rw [hγ 0 hlt0]; exact F.zero, fun i j hi hj e => ?_, fun i hi => ?_, Nat.lt_succ_of_lt hhl, by rw [hγ h hhl]; exact ha, ⟨ILg.cur, ILg.callers, ids_move F.ids.ids⟩, ⟨?_, frg, frsg, g1, g2, g3⟩, fun x hx => ?_, fun i t2 e => ?_, ?_, F.keeps.trans ⟨fun n hn => rfl, Nat.le_refl _, rfl, rfl, rfl⟩, F.mem⟩⟩
          · rw [hγ h hhl]; exact C'
          · dsimp only at hi hj
            by_cases ei : i = next <;> by_cases ej : j = next
            · rw [ei, ej]
            · rw [ei, upd_same, hγ j (by omega)] at e
              have := F.lt j (by show j < next; omega)
              omega
            · rw [ej, upd_same, hγ i (by omega)] at e
              have := F.lt i (by show i < next; omega)
              omega
            · rw [hγ i (by omega), hγ j (by omega)] at e
              exact F.inj i j (by show i < next; omega) (by show j < next; omega) e
          · dsimp only at hi
            rw [hsz]
            by_cases ei : i = next
            · rw [ei, upd_same]; omega
            · rw [hγ i (by omega)]
              have := F.lt i (by show i < next; omega)
              omega
          · exact rel_move R rfl (fun n => .inl rfl) F.mem hgeS hok hok'
          · rcases List.mem_cons.1 hx with rfl | hx
            · refine ⟨by rw [hid]; exact Nat.lt_succ_self _, by rw [hid]; exact fun e => by have := F.hlt; dsimp only at this e; omega, _, by rw [hid, upd_same, upd_same], ?_⟩
              rw [hid, ecs]
              exact seat_is R F.ids.ids _ hrd hch' (rel_ge R hgeS hok hch')
            · obtain ⟨x1, x2, t2, e, S2⟩ := F.seats x hx
              exact ⟨Nat.lt_succ_of_lt x1, x2, t2, by rw [hγ _ x1, hI _ x1]; exact e, S2⟩
          · by_cases ei : i = gs.size
            · exact ⟨s', List.mem_cons_self .., by rw [hid, upd_same, ei]⟩
            · rw [upd_ne Inb _ ei] at e
              obtain ⟨x, hx, rfl⟩ := F.all i t2 e
              have := F.seats x hx
              exact ⟨x, List.mem_cons_of_mem _ hx, by rw [hγ _ this.1]⟩
          · refine List.nodup_cons.2 ⟨fun hm => ?_, F.nodup⟩
            obtain ⟨x, hx, e⟩ := List.mem_map.1 hm
            have := (F.seats x hx).1
            rw [hid] at e
            dsimp only at this
            omega
        · cases hg
    · cases hg
  · cases hg
  · cases hg

theorem mark_call {P : Program} {f : FuncId} {m : Mark} (hm : ∀ f, m ≠ .extern f) (h : ExtFact P f (fun _ => do mark m; pure Extern.Race.none_)) (args : Array Value) (w : World) (es : Array Event) :
    (callFunc f args).runT P w es = (.ok (Go.Next.value Extern.Race.none_) w, (es.push ⟨.mark (.extern f), false, true⟩).push ⟨.mark m, false, true⟩) := by
  obtain ⟨fn, h1, h2, h3, h4, h5⟩ := h.fact
  unfold callFunc
  show (match P.funcs[f]? with
    | none => (stuck "call: no such function" : Sem Go.Next)
    | some fn => if fn.name == "runtime.NumGoroutine" then pure .numGoroutine
    else if fn.body.isNone then _ else _).runT P w es = _
  simp only [h1, h2, h3, h4, h5]
  rfl

theorem seen_mark (P : Program) (fn f : FuncId) {m : Mark} (hm : ∀ f, m ≠ .extern f) : seen P fn #[⟨.mark (.extern f), false, true⟩, ⟨.mark m, false, true⟩] = #[⟨.mark m, false, true⟩] := by
  cases m <;> first | exact absurd rfl (hm _) | simp [seen]

theorem cinv_mark (X : CrewSound P O ext sum) {c : Call} {o : Oper} (ho : opAt st.c = some o) (hop : o.op = .call c) {dis : Bool} (hm : markOf? O st.c.cur.tmps c = some dis) {fr : AFrame} (hf : finishA st.c.cur undefA = .ok fr) (I : CInv P O base W0 cs st m T) :
    ∃ N m' T', runNT P N m T = (.next m', T') ∧ CInv P O base W0 cs { st with c := ⟨fr, st.c.callers, st.c.h⟩, deaf := deafer dis st.deaf } m' T' := by
  obtain ⟨gs, w, sl, q, Inb, U, ρ, γ, a, rfl, F⟩ := I
  obtain ⟨h, ⟨cur, callers, ⟨hp, nb, lim⟩⟩, seats, next, deaf⟩ := st
  obtain ⟨fn, nt, tmps, ops, i, rst, k, defers, kind, callers', hh, e, hoi, hgd, htg⟩ := opAt_ok ho
  cases e
  have Γ : LGam P ρ ⟨⟨fn, nt, tmps, .inRegion ops (i :: rst) :: k, defers, .run, kind⟩, callers, ⟨hp, nb, lim⟩⟩ (csOf P cs h) a := F.gam.2
  have IL : LIds U ⟨⟨fn, nt, tmps, .inRegion ops (i :: rst) :: k, defers, .run, kind⟩, callers, ⟨hp, nb, lim⟩⟩ := ⟨F.ids.cur, F.ids.callers⟩
  have R := F.gam.1
  obtain ⟨tm, frs, h1, h2, h3, hc, ea⟩ := (lg_run htg).1 Γ
  have hw : Region.wanted o (yielded ops tm) = true := by unfold Region.wanted; rw [hgd]
  have hke : (mkF fn kind).kind ≠ .early := by rcases h2 with rfl | rfl <;> simp [mkF]
  unfold markOf? at hm
  dsimp only at hm
  split at hm
  · rename_i x hcal
    split at hm
    · rename_i hargs
      split at hm
      · rename_i f hx
        obtain ⟨f', hmem, hff⟩ := look_some hm
        obtain rfl := Nat.eq_of_beq_eq_true hff
        have hfact := X.offs _ hmem
        dsimp only at hfact
        have hne : ∀ g, markWay dis ≠ .extern g := fun g => by cases dis <;> simp [markWay]
        have hfact' : ExtFact P f (fun _ => do mark (markWay dis); pure Extern.Race.none_) := by cases dis <;> exact hfact
        have hae : c.args = #[] := by apply Array.toList_inj.1; exact hargs
        have e1 : (⟨tm, defers.map (AD.ev ρ)⟩ : Act).eval x = .func (.func f) #[] #[] := by rw [evalA_ev h1, hx]; rfl
        have hres : resolve (⟨tm, defers.map (AD.ev ρ)⟩ : Act).eval c o.type = pure { target := .fn (.func f) #[], args := #[] } := by
          unfold resolve
          rw [hcal, hae]
          dsimp only
          rw [e1]
          simp [Deferred.ofValue]
        have hR : ∀ (w : World) (es : Array Event), (execOp (⟨tm, defers.map (AD.ev ρ)⟩ : Act).eval o).runT P w es = (.ok (Go.Next.value Extern.Race.none_) w, (es.push ⟨.mark (.extern f), false, true⟩).push ⟨.mark (markWay dis), false, true⟩) := by
          intro w es
          unfold execOp
          rw [hop]
          show (resolve (⟨tm, defers.map (AD.ev ρ)⟩ : Act).eval c o.type >>= fun d => invoke d.target d.args).runT P w es = _
          rw [hres]
          exact mark_call hne hfact' _ w es
        have hgo : ∀ d, stepG P (γ h == 0) a (w.at d) = .go (G ((mkF fn kind).at ((⟨tm, defers.map (AD.ev ρ)⟩ : Act).put o.dst Extern.Race.none_) (.inRegion ops rst :: k)) (frs ++ csOf P cs h)) (w.at d) #[⟨.mark (markWay dis), false, true⟩] := fun d => by
          have r1 : (execOp (⟨tm, defers.map (AD.ev ρ)⟩ : Act).eval o).run P (w.at d) = .ok (Go.Next.value Extern.Race.none_) (w.at d) := by
            have := congrArg Prod.fst (hR (w.at d) #[])
            rw [Sem.runT_fst] at this
            exact this
          have r2 : (execOp (⟨tm, defers.map (AD.ev ρ)⟩ : Act).eval o).events P (w.at d) #[] = #[⟨.mark (.extern f), false, true⟩, ⟨.mark (markWay dis), false, true⟩] := congrArg Prod.snd (hR (w.at d) #[])
          rw [ea, stepG_value hoi hw hke r1]
          unfold listed
          rw [r2, seen_mark P _ f hne]
        have hrun : a.status = .running := by rw [ea]; rfl
        obtain ⟨N, gs', d, sl', T', q', hr, hsz, ha, C'⟩ := Tok.hold_turn (dd' := deafer dis deaf) (sl := sl) F.here hrun hgo (by
            intro e he
            simp only [List.mem_toArray, List.mem_cons, List.not_mem_nil, or_false] at he
            subst he
            cases dis <;> rfl) (by cases dis <;> rfl) F.core
        obtain ⟨ILg, Γg⟩ := served_ok Γ IL (v := undefA) (by simp [undefA, AV.In, AV.Ins]) hf e0
        have eserved : Conc.served a (undefA.ev ρ) = G ((mkF fn kind).at ((⟨tm, defers.map (AD.ev ρ)⟩ : Act).put o.dst Extern.Race.none_) (.inRegion ops rst :: k)) (frs ++ csOf P cs h) := by
          rw [ea]
          show { G ((mkF fn kind).at ⟨tm, defers.map (AD.ev ρ)⟩ (.inRegion ops (i :: rst) :: k)) (frs ++ csOf P cs h) with frame := ((mkF fn kind).at ⟨tm, defers.map (AD.ev ρ)⟩ (.inRegion ops (i :: rst) :: k)).finish undef, status := .running, offers := none } = _
          rw [Frame.finish_at, hoi]
          rfl
        rw [eserved] at Γg
        obtain ⟨frg, frsg, g1, g2, g3⟩ := Γg
        refine ⟨N, _, T', hr, gs', w.at d, sl', q', Inb, U, ρ, γ, _, rfl, ⟨C', F.zero, F.inj, fun i hi => by rw [hsz]; exact F.lt i hi, F.hlt, ha, ⟨ILg.cur, ILg.callers, F.ids.ids⟩, ⟨rel_same R ⟨d, rfl⟩, frg, frsg, g1, g2, g3⟩, F.seats, F.all, F.nodup, F.keeps.trans ⟨fun n hn => rfl, Nat.le_refl _, rfl, rfl, rfl⟩, F.mem⟩⟩
      · cases hm
    · cases hm
  · cases hm

/-- A step of the crew. -/
theorem crew1_ok (X : CrewSound P O ext sum) {f : Nat} {st' : CSt} (he : crew1? P O ext sum f st = .ok (.inl st')) (I : CInv P O base W0 cs st m T) : ∃ N m' T', runNT P N m T = (.next m', T') ∧ CInv P O base W0 cs st' m' T' := by
  have walk : (match step? P O ext (fun g args h => match sum g args h with
      | some r => r
      | none => match enterA P g args .normal with
        | .ok fr => run? P O ext sum f ⟨fr, [], h⟩
        | .error e => .error e) st.c with
    | .ok (.inl c) => (.ok (.inl { st with c }) : M (CSt ⊕ AV))
    | .ok (.inr (.returned v, _)) => match Nat.beq st.h 0, st.seats, st.c.callers, oneTmp P st.c.cur.fn, st.deaf with
      | true, [], [], true, 0 => .ok (.inr v)
      | _, _, _, _, _ => .error "the end somebody waits"
    | .ok (.inr _) => .error "the end a panic"
    | .error e => .error e) = .ok (.inl st') → ∃ N m' T', runNT P N m T = (.next m', T') ∧ CInv P O base W0 cs st' m' T' := by
    intro hw
    split at hw
    · rename_i c' hs
      cases hw
      exact cinv_walk X hs I
    · split at hw <;> cases hw
    · cases hw
    · cases hw
  unfold crew1? at he
  dsimp only at he
  split at he
  · rename_i o ho
    split at he
    · rename_i x y hop
      split at he
      · rename_i s hg
        cases he
        exact cinv_give X ho hop hg I
      · cases he
    · rename_i c hop
      split at he
      · rename_i s hg
        cases he
        exact cinv_hire X ho hop hg I
      · cases he
    · rename_i c hop
      split at he
      · rename_i dis hm
        split at he
        · rename_i fr hf
          cases he
          exact cinv_mark X ho hop hm hf I
        · cases he
      · exact walk he
    · exact walk he
  · exact walk he
end
end Go.Proofs.YtmnahfonnljobaaGreatDoor.SX
/-
  The crew, sound: runs in pieces; the end; one good run.
-/
set_option linter.unusedSectionVars false
set_option linter.unusedVariables false
set_option linter.unusedSimpArgs false
namespace Go.Proofs.YtmnahfonnljobaaGreatDoor.SX
open Go.Conc

section
variable {P : Program} {O : Orc} {ext : Ext} {sum : Sums} {base : Nat} {W0 : World} {cs : List Frame}

theorem crew_ok (X : CrewSound P O ext sum) {f : Nat} : ∀ {n : Nat} {st : CSt} {r : CSt ⊕ AV}, crew? P O ext sum f n st = .ok r → ∀ {m : Machine} {T : Trace}, CInv P O base W0 cs st m T →
    match r with
    | .inl st' => ∃ N m' T', runNT P N m T = (.next m', T') ∧ CInv P O base W0 cs st' m' T'
    | .inr v => ∃ N m' T' st', runNT P N m T = (.next m', T') ∧ CInv P O base W0 cs st' m' T' ∧ crew1? P O ext sum f st' = .ok (.inr v) := by
  intro n
  induction n with
  | zero =>
    intro st r he m T I
    have : (Except.ok (.inl st) : M (CSt ⊕ AV)) = .ok r := he
    cases this
    exact ⟨0, m, T, rfl, I⟩
  | succ n ih =>
    intro st r he m T I
    have he' : (match crew1? P O ext sum f st with
      | .ok (.inl c) => crew? P O ext sum f n c
      | .ok (.inr r) => .ok (.inr r)
      | .error e => .error e) = .ok r := he
    split at he'
    · rename_i c hs
      obtain ⟨N, m1, T1, h1, I1⟩ := crew1_ok X hs I
      have h2 := ih he' I1
      cases r with
      | inl st' =>
        obtain ⟨M, m2, T2, h3, I2⟩ := h2
        exact ⟨N + M, m2, T2, runNT_then h1 h3, I2⟩
      | inr v =>
        obtain ⟨M, m2, T2, st', h3, I2, h4⟩ := h2
        exact ⟨N + M, m2, T2, st', runNT_then h1 h3, I2, h4⟩
    · rename_i v hs
      cases he'
      exact ⟨0, m, T, st, rfl, I, hs⟩
    · cases he'

theorem cinv_sieve {h next deaf : Nat} {cur : AFrame} {callers : List AFrame} {hp : List (Nat × ABlk)} {nb lim : Nat} {ks : List Nat} {seats : List ASeat} {m : Machine} {T : Trace} (I : CInv P O base W0 cs ⟨h, ⟨cur, callers, ⟨hp, nb, lim⟩⟩, seats, next, deaf⟩ m T) :
    CInv P O base W0 cs ⟨h, ⟨cur, callers, ⟨sieve hp ks, nb, lim⟩⟩, seats, next, deaf⟩ m T := by
  obtain ⟨gs, w, sl, q, Inb, U, ρ, γ, a, rfl, F⟩ := I
  exact ⟨gs, w, sl, q, Inb, U, ρ, γ, a, rfl, ⟨F.core, F.zero, F.inj, F.lt, F.hlt, F.here, ⟨F.ids.cur, F.ids.callers, F.ids.ids.sieve⟩, ⟨F.gam.1.sieve F.ids.ids.nodup, F.gam.2⟩, F.seats, F.all, F.nodup, F.keeps, F.mem⟩⟩

/-- Where a crew comes to, piece by piece: it ends with 'true'. -/
inductive CRuns (P : Program) (O : Orc) (ext : Ext) (sum : Sums) : CSt → Prop where
  | last (f n : Nat) (c : CSt) : clast? P O ext sum f n c = true → CRuns P O ext sum c
  | more (f n : Nat) (ks : List Nat) (c c' : CSt) : cchunk? P O ext sum f n ks c = .ok c' → CRuns P O ext sum c' → CRuns P O ext sum c

theorem cruns_ok (X : CrewSound P O ext sum) {st : CSt} (h : CRuns P O ext sum st) : ∀ {m : Machine} {T : Trace}, CInv P O base W0 cs st m T → ∃ N m' T' st' f, runNT P N m T = (.next m', T') ∧ CInv P O base W0 cs st' m' T' ∧ crew1? P O ext sum f st' = .ok (.inr (.bool (.lit true))) := by
  induction h with
  | last f n c he =>
    intro m T I
    unfold clast? at he
    split at he
    · rename_i b hr
      cases he
      obtain ⟨N, m', T', st', h1, h2, h3⟩ := crew_ok X hr I
      exact ⟨N, m', T', st', f, h1, h2, h3⟩
    · cases he
  | more f n ks c c' he _ ih =>
    intro m T I
    unfold cchunk? at he
    split at he
    · rename_i h cur callers hp nb lim seats next deaf hr
      cases he
      obtain ⟨N, m1, T1, h1, I1⟩ := crew_ok X hr I
      obtain ⟨M, m2, T2, st', f', h2, h3, h4⟩ := ih (cinv_sieve I1)
      exact ⟨N + M, m2, T2, st', f', runNT_then h1 h2, h3, h4⟩
    · cases he
    · cases he

/-- A result that lies in a temporary. -/
theorem results_tmp {fn : Func} {t : Nat} (h : fn.results = #[.tmp t]) (tmps : Array Value) : results fn tmps = pure (tmps.getD t undef) := by
  unfold results
  rw [h]
  simp

theorem crew1_end {f : Nat} {st : CSt} {v : AV} (he : crew1? P O ext sum f st = .ok (.inr v)) : st.h = 0 ∧ st.seats = [] ∧ st.c.callers = [] ∧ oneTmp P st.c.cur.fn = true ∧ st.deaf = 0 ∧ ∃ h', step? P O ext (fun g args h => match sum g args h with
      | some r => r
      | none => match enterA P g args .normal with
        | .ok fr => run? P O ext sum f ⟨fr, [], h⟩
        | .error e => .error e) st.c = .ok (.inr (.returned v, h')) := by
  have walk : (match step? P O ext (fun g args h => match sum g args h with
      | some r => r
      | none => match enterA P g args .normal with
        | .ok fr => run? P O ext sum f ⟨fr, [], h⟩
        | .error e => .error e) st.c with
    | .ok (.inl c) => (.ok (.inl { st with c }) : M (CSt ⊕ AV))
    | .ok (.inr (.returned v, _)) => match Nat.beq st.h 0, st.seats, st.c.callers, oneTmp P st.c.cur.fn, st.deaf with
      | true, [], [], true, 0 => .ok (.inr v)
      | _, _, _, _, _ => .error "the end somebody waits"
    | .ok (.inr _) => .error "the end a panic"
    | .error e => .error e) = .ok (.inr v) → st.h = 0 ∧ st.seats = [] ∧ st.c.callers = [] ∧ oneTmp P st.c.cur.fn = true ∧ st.deaf = 0 ∧ ∃ h', step? P O ext (fun g args h => match sum g args h with
      | some r => r
      | none => match enterA P g args .normal with
        | .ok fr => run? P O ext sum f ⟨fr, [], h⟩
        | .error e => .error e) st.c = .ok (.inr (.returned v, h')) := by
    intro hw
    split at hw
    · cases hw
    · rename_i v' h' hs
      split at hw
      · rename_i e1 e2 e3 e4 e5
        cases hw
        exact ⟨Nat.eq_of_beq_eq_true e1, e2, e3, e4, e5, h', hs⟩
      · cases hw
    · cases hw
    · cases hw
  unfold crew1? at he
  dsimp only at he
  split at he
  · split at he
    · split at he <;> cases he
    · split at he <;> cases he
    · split at he
      · split at he <;> cases he
      · exact walk he
    · exact walk he
  · exact walk he

/-- ONE GOOD RUN of a function whose crew comes, piece by piece, to 'true'. -/
theorem crew_run (X : CrewSound P O ext sum) {f : FuncId} {args : List AV} {fr : AFrame} {h0 : AH} (hen : enterA P f args .normal = .ok fr) (runs : CRuns P O ext sum ⟨0, ⟨fr, [], h0⟩, [], 1, 0⟩)
    {W : World} {ρ : Env} {U : Nat → Prop} (I : Ids (CK P O W.heap.size [] ρ) U h0) (ha : AV.Ins U args) (R : Rel (CK P O W.heap.size [] ρ) ρ h0 W) (hm : ∀ p ∈ O.mem, (p.1.ev ρ).block < W.heap.size) :
    ∃ M last o w' t', runNT P (M + 1) (solo (G (Frame.enter P f (AV.evs ρ args).toArray .normal) []) W) #[] = (.ended o w', t') ∧ runN P M (solo (G (Frame.enter P f (AV.evs ρ args).toArray .normal) []) W) = .next last ∧
      step P last = .ended o w' ∧ Conc.Good P (fun v W' => v = .bool true ∧ Keeps (fun n => W.heap.size ≤ n) W W') last o w' t' := by
  obtain ⟨e1, e2, e3, e4, e5⟩ := enterA_ok hen (.inl rfl) ha (ρ := ρ)
  have C0 : Tok.Core P (fun _ => none) 0 0 #[] #[G (Frame.enter P f (AV.evs ρ args).toArray .normal) []] W (fun _ => 0) := Tok.begins (leavers_one P _) past_nil
  have I0 : CInv P O W.heap.size W [] ⟨0, ⟨fr, [], h0⟩, [], 1, 0⟩ (crowd #[G (Frame.enter P f (AV.evs ρ args).toArray .normal) []] W none) #[] :=
    ⟨_, W, none, _, _, U, ρ, fun n => n, _, rfl, ⟨C0, rfl, fun _ _ _ _ e => e, fun i hi => by simpa using hi, Nat.lt_succ_self _, rfl, ⟨e2, fun _ x => (by simp at x), I⟩, ⟨R, _, [], e1, trivial, rfl⟩, fun s hs => (by cases hs), fun i t e => (by cases e), List.nodup_nil, Keeps.refl _ _, hm⟩⟩
  obtain ⟨N, m1, T1, st1, f1, hr1, I1, hend⟩ := cruns_ok X runs I0
  obtain ⟨hh, hse, hcal, hone, hdf, h', hst⟩ := crew1_end hend
  obtain ⟨gs, w, sl, q, Inb, U1, ρ1, γ, a, rfl, F⟩ := I1
  obtain ⟨h, c, seats, next, deaf⟩ := st1
  dsimp only at hh hse hcal hone hdf
  subst hh; subst hse; subst hdf
  obtain ⟨n2, E⟩ := crew_call X (seats := []) (main := γ 0 == 0) F.mem hst
  have W2 := E U1 ρ1 [] a w F.ids F.gam
  obtain ⟨M, gs', a', w', sl', T', q', hr2, hsz, hat, ⟨ρ2, A, kp, gr, hin, R2, ends⟩, C2⟩ := F.go W2 sl
  obtain ⟨fr', fn', rfl, hb, hd, hf, hmode, hkind, hq⟩ := ends
  dsimp only at hat C2
  have hz := F.zero
  rw [hz] at hat C2
  have hnone : ∀ i, Inb i = none := fun i => by
    cases e : Inb i with
    | none => rfl
    | some t => obtain ⟨s, hs, _⟩ := F.all i t e; cases hs
  obtain ⟨hL, B, hP⟩ := Tok.over C2 hnone
  have hAll : ∀ d, stepG P true (G fr' []) (w'.at d) = .ended (.done (.bool true)) (w'.at d) #[] := by
    intro d
    rw [hcal] at hb
    have hb' : fr'.fn = c.cur.fn := hb
    unfold oneTmp at hone
    have hf' : P.funcs[fr'.fn]? = some fn' := hf
    rw [← hb'] at hone
    rw [hf'] at hone
    dsimp only at hone
    split at hone
    · rename_i tt ht
      have hres : fn'.results = #[.tmp tt] := by apply Array.toList_inj.1; exact ht
      have hq' := hq d (Q := fun x w2 => x = .bool true ∧ w2 = drawnAt w' d) ⟨rfl, rfl⟩
      rw [results_tmp hres] at hq'
      have hv : fr'.tmps.getD tt undef = .bool true := ((wq_pure _).1 hq').1
      have hi : P.inits.idxOf? fr'.fn = none := by simpa using hone
      simp [G, stepG, unwind, doReturn, hmode, hd, hf', results_tmp hres, hkind, GStep.after, hv, hi, seen_none]
    · cases hone
  have hgo : Goes P true AtRel (fun _ _ _ => False) (AtEnd P (fun _ => False) B (fun v W' => v = .bool true ∧ Keeps (fun n => W.heap.size ≤ n) W W')) 0 (G fr' []) w' := by
    intro w₁ hw
    obtain ⟨d, rfl⟩ := hw
    exact ⟨rfl, _, _, hAll d, (by simp), rfl, (F.keeps.trans kp.out).trans ⟨fun _ _ => rfl, Nat.le_refl _, rfl, rfl, rfl⟩⟩
  obtain ⟨K, last, o, w3, t3, b1, b2, b3, b4⟩ := beside_ends (D := fun _ _ _ => False) (fun _ _ _ h => h.elim) (sl := sl') hat hL hP hgo
  have h12 := runNT_then hr1 hr2
  refine ⟨N + M + K, last, o, w3, t3, ?_, ?_, b3, b4⟩
  · rw [show N + M + K + 1 = N + M + (K + 1) by omega, runNT_add]
    have : runNT P (N + M) (solo (G (Frame.enter P f (AV.evs ρ args).toArray .normal) []) W) #[] = (.next (crowd gs' w' sl'), T') := h12
    rw [this]
    exact b1
  · rw [runN_add]
    have : runN P (N + M) (solo (G (Frame.enter P f (AV.evs ρ args).toArray .normal) []) W) = .next (crowd gs' w' sl') := by
      rw [← runNT_fst _ _ _ #[]]
      exact congrArg Prod.fst h12
    rw [this]
    exact b2
end
end Go.Proofs.YtmnahfonnljobaaGreatDoor.SX
