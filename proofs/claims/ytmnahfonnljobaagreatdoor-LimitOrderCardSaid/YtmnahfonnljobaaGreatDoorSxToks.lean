/-
  One goroutine holds, the others sit or leave: the trace's side, where each has still places of its own, that may turn whenever it holds.
  After the thought of the library's token: there the still places are one set for all and for good; here each seat brings its own.
-/
import Derived.Conc.Token
import Derived.Test.YtmnahfonnljobaaGreatDoorSxWalk
set_option linter.unusedSectionVars false
set_option linter.unusedVariables false
set_option linter.unusedSimpArgs false
namespace Go.Proofs.YtmnahfonnljobaaGreatDoor.SX.Tok
open Go.Conc

/-- What is held of the trace while goroutine h holds: no race · it knows every touch, but for reads by others of their own still places · every write of a still place is known to whoever holds it for still · all members hear. -/
structure Held (St : Nat → Loc → Prop) (Mem : Nat → Prop) (h : Nat) (t : Trace) : Prop where
  clean : ∀ said, ¬ Race said t
  known : ∀ i a, touchAt t i = some a → a.loc.isMemory = true → Knows t h i ∨ (a.write = false ∧ ∃ g, t.g? i = some g ∧ g ≠ h ∧ St g a.loc)
  wrote : ∀ i a, touchAt t i = some a → a.write = true → ∀ g, St g a.loc → Knows t g i
  hears : ∀ g, Mem g → Deaf t g = 0

section
variable {St : Nat → Loc → Prop} {Mem : Nat → Prop} {h j g : Nat} {t u : Trace}

theorem Held.old (H : Held St Mem h t) {i : Nat} {a : Touch} {x : MemOp} (hx : t[i]? = some x) (hxa : x.act.touch? = some a) (hm : a.loc.isMemory = true) :
    Knows (t ++ u) h i ∨ (a.write = false ∧ ∃ g, (t ++ u).g? i = some g ∧ g ≠ h ∧ St g a.loc) :=
  (H.known i a (by rw [touchAt_of hx]; exact hxa) hm).imp (Knows.app u) fun ⟨p, g, hg, hn, hs⟩ => ⟨p, g, by rw [g?_old (lt_size_of_getElem? hx)]; exact hg, hn, hs⟩

theorem Held.hears_app (H : Held St Mem h t) (hu : ∀ op ∈ u, op.g = g) (hd : Mem g → Deaf (t ++ u) g = Deaf t g) : ∀ g', Mem g' → Deaf (t ++ u) g' = 0 := fun g' hg' => by
  by_cases e : g' = g
  · subst e; exact (hd hg').trans (H.hears g' hg')
  · exact (Deaf_other t (fun x => e x.symm) u hu).trans (H.hears g' hg')

/-- Operations of anybody that touch nothing. -/
theorem Held.mute (H : Held St Mem h t) (hu : ∀ op ∈ u, op.g = g) (hn : ∀ op ∈ u, op.act.touch? = none) (hd : Mem g → Deaf (t ++ u) g = Deaf t g) : Held St Mem h (t ++ u) := by
  refine ⟨fun said => noRace_appendMute (H.clean said) hn, fun i a ha hm => ?_, fun i a ha hw g' hg' => ?_, H.hears_app hu hd⟩
  · obtain ⟨x, hx, hxa⟩ := touch_of ha
    rcases getElem?_append_cases hx with ⟨_, hx'⟩ | ⟨_, hxu⟩
    · exact H.old hx' hxa hm
    · rw [hn x hxu] at hxa; cases hxa
  · obtain ⟨x, hx, hxa⟩ := touch_of ha
    rcases getElem?_append_cases hx with ⟨_, hx'⟩ | ⟨_, hxu⟩
    · exact (H.wrote i a (by rw [touchAt_of hx']; exact hxa) hw g' hg').app u
    · rw [hn x hxu] at hxa; cases hxa

/-- Whoever does not hold reads its own still places. -/
theorem Held.read (H : Held St Mem h t) (hg : g ≠ h) (hu : ∀ op ∈ u, op.g = g) (hr : ∀ op ∈ u, ∀ b, op.act.touch? = some b → b.write = false ∧ St g b.loc) (hd : Deaf (t ++ u) g = Deaf t g) : Held St Mem h (t ++ u) := by
  refine ⟨fun said => noRace_append (H.clean said) hu fun i a ha op hop b hb hc => ?_, fun i a ha hm => ?_, fun i a ha hw g' hg' => ?_, H.hears_app hu fun _ => hd⟩
  · obtain ⟨hb0, hbS⟩ := hr op hop b hb
    rcases hc.2.2.1 with x | x
    · exact H.wrote i a ha x g (hc.1 ▸ hbS)
    · rw [hb0] at x; cases x
  · obtain ⟨x, hx, hxa⟩ := touch_of ha
    rcases getElem?_append_cases hx with ⟨_, hx'⟩ | ⟨_, hxu⟩
    · exact H.old hx' hxa hm
    · exact .inr ⟨(hr x hxu a hxa).1, g, by rw [g?_of hx, hu x hxu], hg, (hr x hxu a hxa).2⟩
  · obtain ⟨x, hx, hxa⟩ := touch_of ha
    rcases getElem?_append_cases hx with ⟨_, hx'⟩ | ⟨_, hxu⟩
    · exact (H.wrote i a (by rw [touchAt_of hx']; exact hxa) hw g' hg').app u
    · rw [(hr x hxu a hxa).1] at hw; cases hw

/-- The holder's own operations: whatever, but no write of a place that is still for another. -/
theorem Held.own (H : Held St Mem h t) (hu : ∀ op ∈ u, op.g = h) (hs : ∀ op ∈ u, ∀ b, op.act.touch? = some b → ∀ g, St g b.loc → b.write = false) (hd : Mem h → Deaf (t ++ u) h = Deaf t h) : Held St Mem h (t ++ u) := by
  refine ⟨fun said => noRace_append (H.clean said) hu fun i a ha op hop b hb hc => ?_, fun i a ha hm => ?_, fun i a ha hw g hg => ?_, H.hears_app hu hd⟩
  · rcases H.known i a ha hc.2.1 with hk | ⟨hw, g, _, _, hS⟩
    · exact hk
    · have hb0 := hs op hop b hb g (hc.1 ▸ hS)
      rcases hc.2.2.1 with x | x
      · rw [hw] at x; cases x
      · rw [hb0] at x; cases x
  · obtain ⟨x, hx, hxa⟩ := touch_of ha
    rcases getElem?_append_cases hx with ⟨_, hx'⟩ | ⟨_, hxu⟩
    · exact H.old hx' hxa hm
    · have := knows_own hx
      rw [hu x hxu] at this
      exact .inl this
  · obtain ⟨x, hx, hxa⟩ := touch_of ha
    rcases getElem?_append_cases hx with ⟨_, hx'⟩ | ⟨_, hxu⟩
    · exact (H.wrote i a (by rw [touchAt_of hx']; exact hxa) hw g hg).app u
    · rw [hs x hxu a hxa g hg] at hw; cases hw

/-- The holder's own operations that touch nothing, whatever becomes of its hearing. -/
theorem Held.turn {Mem' : Nat → Prop} (H : Held St Mem h t) (hu : ∀ op ∈ u, op.g = h) (hn : ∀ op ∈ u, op.act.touch? = none) (h1 : ∀ g, Mem' g → g ≠ h → Mem g) (h2 : Mem' h → Deaf (t ++ u) h = 0) : Held St Mem' h (t ++ u) := by
  refine ⟨fun said => noRace_appendMute (H.clean said) hn, fun i a ha hm => ?_, fun i a ha hw g' hg' => ?_, fun g hg => ?_⟩
  · obtain ⟨x, hx, hxa⟩ := touch_of ha
    rcases getElem?_append_cases hx with ⟨_, hx'⟩ | ⟨_, hxu⟩
    · exact H.old hx' hxa hm
    · rw [hn x hxu] at hxa; cases hxa
  · obtain ⟨x, hx, hxa⟩ := touch_of ha
    rcases getElem?_append_cases hx with ⟨_, hx'⟩ | ⟨_, hxu⟩
    · exact (H.wrote i a (by rw [touchAt_of hx']; exact hxa) hw g' hg').app u
    · rw [hn x hxu] at hxa; cases hxa
  · by_cases e : g = h
    · subst e; exact h2 hg
    · exact (Deaf_other t (fun x => e x.symm) u hu).trans (H.hears g (h1 g hg e))

/-- A send that is met: whoever takes holds; the giver may call places still from now on; the taker's are free again. -/
theorem Held.give (H : Held St Mem h t) (hh : Mem h) (hj : Mem j) (hjh : j ≠ h) {St' : Nat → Loc → Prop} (h1 : ∀ g l, g ≠ h → g ≠ j → St' g l → St g l) (h1' : ∀ g l, g ≠ h → g ≠ j → St g l → St' g l) (h2 : ∀ l, ¬ St' j l) (h3 : ∀ l, St' h l → l.isMemory = true)
    (fh : FuncId) (ph : String) (fj : FuncId) (pj : String) {c : Nat} (k cap : Nat) : Held St' Mem j (t ++ met h j fh ph fj pj c k cap) := by
  have hn := met_mute h j fh ph fj pj c k cap
  have hq := met_quiet h j fh ph fj pj c k cap
  have e0 : (t ++ met h j fh ph fj pj c k cap)[t.size]? = some { g := h, fn := fh, pos := ph, act := .send c k } := by simp [met]
  have e3 : (t ++ met h j fh ph fj pj c k cap)[t.size + 3]? = some { g := j, fn := fj, pos := pj, act := .recvDone c k } := by simp [met]
  have edge : HappensBefore (t ++ met h j fh ph fj pj c k cap) t.size (t.size + 3) :=
    Relation.TransGen.single (.inr ⟨.handOver (act?_of e0) (act?_of e3), ⟨h, g?_of e0, by rw [deaf_old (Nat.le_refl _)]; exact H.hears h hh⟩, ⟨j, g?_of e3, by rw [deaf_quiet (hq j) 3 (by simp [met])]; exact H.hears j hj⟩⟩)
  refine ⟨fun said => noRace_appendMute (H.clean said) hn, fun i a ha hm => ?_, fun i a ha hw g hg => ?_, fun g hg => (Deaf_quiet (hq g)).trans (H.hears g hg)⟩
  · obtain ⟨x, hx, hxa⟩ := touch_of ha
    rcases getElem?_append_cases hx with ⟨hi, hx'⟩ | ⟨_, hxu⟩
    · rcases H.known i a (by rw [touchAt_of hx']; exact hxa) hm with hk | ⟨p, g, hg, hgh, hS⟩
      · exact .inl ⟨t.size + 3, _, e3, rfl, .inr ((hk.hb_new (Nat.le_refl _) e0 rfl).trans edge)⟩
      · by_cases e : g = j
        · subst e
          have := knows_own hx
          rw [show x.g = g from by have := g?_of hx'; rw [hg] at this; exact (Option.some.inj this).symm] at this
          exact .inl this
        · exact .inr ⟨p, g, by rw [g?_old hi]; exact hg, e, h1' g _ hgh e hS⟩
    · rw [hn x hxu] at hxa; cases hxa
  · obtain ⟨x, hx, hxa⟩ := touch_of ha
    rcases getElem?_append_cases hx with ⟨_, hx'⟩ | ⟨_, hxu⟩
    · have ht : touchAt t i = some a := by rw [touchAt_of hx']; exact hxa
      by_cases ej : g = j
      · exact absurd (ej ▸ hg) (h2 _)
      by_cases eh : g = h
      · subst eh
        rcases H.known i a ht (h3 _ hg) with hk | ⟨p, _⟩
        · exact hk.app _
        · rw [p] at hw; cases hw
      · exact (H.wrote i a ht hw g (h1 g _ eh ej hg)).app _
    · rw [hn x hxu] at hxa; cases hxa

/-- A go statement of the holder's: the child may call places still from its birth on. -/
theorem Held.hire (H : Held St Mem h t) (hh : Mem h) {c : Nat} (hc0 : Deaf t c = 0) (hch : c ≠ h) {St' : Nat → Loc → Prop} (h1 : ∀ g l, g ≠ c → (St' g l ↔ St g l)) (hc : ∀ l, ¬ St c l) (h3 : ∀ l, St' c l → l.isMemory = true) (fh : FuncId) (ph : String) (fc : FuncId) :
    Held St' (fun g => Mem g ∨ g = c) h (t ++ #[{ g := h, fn := fh, pos := ph, act := .go c }, { g := c, fn := fc, pos := ph, act := .start }]) := by
  generalize hu : (#[{ g := h, fn := fh, pos := ph, act := .go c }, { g := c, fn := fc, pos := ph, act := .start }] : Trace) = u
  have hn : ∀ op ∈ u, op.act.touch? = none := by
    intro op hop
    subst hu
    simp only [List.mem_toArray, List.mem_cons, List.not_mem_nil, or_false] at hop
    rcases hop with rfl | rfl <;> rfl
  have hq : ∀ g, ∀ op ∈ u, ∀ d, deafStep g d op = d := by
    intro g op hop d
    subst hu
    simp only [List.mem_toArray, List.mem_cons, List.not_mem_nil, or_false] at hop
    rcases hop with rfl | rfl <;> rfl
  have e0 : (t ++ u)[t.size]? = some { g := h, fn := fh, pos := ph, act := .go c } := by subst hu; simp
  have e1 : (t ++ u)[t.size + 1]? = some { g := c, fn := fc, pos := ph, act := .start } := by subst hu; simp
  have edge : HappensBefore (t ++ u) t.size (t.size + 1) :=
    Relation.TransGen.single (.inr ⟨.spawn (act?_of e0) (act?_of e1) (g?_of e1), ⟨h, g?_of e0, by rw [deaf_old (Nat.le_refl _)]; exact H.hears h hh⟩, ⟨c, g?_of e1, by rw [deaf_quiet (hq c) 1 (by subst hu; simp)]; exact hc0⟩⟩)
  refine ⟨fun said => noRace_appendMute (H.clean said) hn, fun i a ha hm => ?_, fun i a ha hw g hg => ?_, fun g hg => (Deaf_quiet (hq g)).trans (hg.elim (H.hears g) fun e => e ▸ hc0)⟩
  · obtain ⟨x, hx, hxa⟩ := touch_of ha
    rcases getElem?_append_cases hx with ⟨_, hx'⟩ | ⟨_, hxu⟩
    · refine (H.old hx' hxa hm).imp id fun ⟨p, g, hg, hgh, hS⟩ => ⟨p, g, hg, hgh, (h1 g _ fun e => hc _ (e ▸ hS)).2 hS⟩
    · rw [hn x hxu] at hxa; cases hxa
  · obtain ⟨x, hx, hxa⟩ := touch_of ha
    rcases getElem?_append_cases hx with ⟨_, hx'⟩ | ⟨_, hxu⟩
    · have ht : touchAt t i = some a := by rw [touchAt_of hx']; exact hxa
      by_cases ec : g = c
      · subst ec
        rcases H.known i a ht (h3 _ hg) with hk | ⟨p, _⟩
        · exact ⟨t.size + 1, _, e1, rfl, .inr ((hk.hb_new (Nat.le_refl _) e0 rfl).trans edge)⟩
        · rw [p] at hw; cases hw
      · exact (H.wrote i a ht hw g ((h1 g _ ec).1 hg)).app _
    · rw [hn x hxu] at hxa; cases hxa

/-- Goroutine 0 alone: it holds, and nobody has a seat. -/
theorem Held.begin {B : Nat} (H : Past (fun _ => False) B t) : Held (fun _ _ => False) (fun g => g = 0) 0 t :=
  ⟨H.clean, fun i a ha hm => (H.known i a ha hm).imp id fun x => x.1.elim, fun _ _ _ _ _ hg => hg.elim, fun _ hg => hg ▸ H.hears⟩

/-- Goroutine 0 holds and nobody has a seat: all is known to it. -/
theorem Held.over (H : Held St Mem 0 t) (h0 : Mem 0) (hS : ∀ g l, ¬ St g l) {B : Nat} (hB : ∀ op ∈ t, op.act.low B) : Past (fun _ => False) B t := by
  have hk : ∀ i a, touchAt t i = some a → a.loc.isMemory = true → Knows t 0 i := fun i a ha hm => (H.known i a ha hm).elim id fun ⟨_, g, _, _, hs⟩ => absurd hs (hS g _)
  refine ⟨H.clean, fun i a ha hm => .inl (hk i a ha hm), fun i g hg hne ⟨x, hx, hm, _⟩ => ?_, H.hears 0 h0, hB⟩
  obtain ⟨q, z, hq, hz, hb⟩ := hk i x hx hm
  rcases hb with rfl | hb
  · rw [g?_of hq, hz] at hg
    exact absurd (Option.some.inj hg).symm hne
  · exact ⟨q, by rw [g?_of hq, hz], hb⟩

/-- Whatever a trace names lies below some bound. -/
theorem low_some (t : Trace) : ∃ B, ∀ op ∈ t, op.act.low B := by
  have one : ∀ a : MemAct, ∃ B, a.low B := by
    have loc : ∀ l : Loc, ∃ B, l.low B := fun l => by
      cases l with
      | cell a => exact ⟨a.block + 1, Nat.lt_succ_self _⟩
      | obj r => exact ⟨r + 1, Nat.lt_succ_self _⟩
      | _ => exact ⟨0, trivial⟩
    intro a
    cases a with
    | access e => exact loc e.loc
    | mark m => cases m <;> first | exact ⟨0, trivial⟩ | exact ⟨_, Nat.lt_succ_self _⟩
    | go _ | start => exact ⟨0, trivial⟩
    | send _ _ | sendDone _ _ | recv _ _ _ | recvDone _ _ | close _ | recvClosed _ => exact ⟨_, Nat.lt_succ_self _⟩
  have : ∀ l : List MemOp, ∃ B, ∀ op ∈ l, op.act.low B := by
    intro l
    induction l with
    | nil => exact ⟨0, fun _ h => by cases h⟩
    | cons x l ih =>
      obtain ⟨B, hB⟩ := ih
      obtain ⟨C, hC⟩ := one x.act
      refine ⟨B + C, fun op hop => ?_⟩
      rcases List.mem_cons.1 hop with rfl | hop
      · exact MemAct.low_mono (Nat.le_add_left _ _) hC
      · exact MemAct.low_mono (Nat.le_add_right _ _) (hB op hop)
  obtain ⟨B, hB⟩ := this t.toList
  exact ⟨B, fun op hop => hB op (by simpa using hop)⟩
end
end Go.Proofs.YtmnahfonnljobaaGreatDoor.SX.Tok
/-
  One goroutine holds, the others sit at a receive on a channel of their own, are on their way there, or leave: the machine's side.
-/
set_option linter.unusedSectionVars false
set_option linter.unusedVariables false
set_option linter.unusedSimpArgs false
namespace Go.Proofs.YtmnahfonnljobaaGreatDoor.SX.Tok
open Go.Conc
open Go.ConcN (sumTo upd sumTo_upd upd_ne upd_same)

/-- A seat: its channel; the places that are read on the way there; what is leaned on; what is known of whoever stands there. -/
structure Seat where
  c : Nat
  z : Value
  ok : Bool
  still : Loc → Prop
  keep : World → Prop
  B : Nat
  home : Goroutine → Prop

def Seat.base (s : Seat) : Conc.Seat := Conc.Seat.one s.c s.z s.ok s.home

/-- What it leans on stands, whatever the count of draws, whatever is done with channels. -/
structure Seat.Wf (s : Seat) : Prop where
  at' : ∀ w d, s.keep w → s.keep (w.at d)
  chan : ∀ w c cap buf cl a b tm cap' buf' cl' a' b' tm', w.heap[c]? = some (.chan cap buf cl a b tm) → s.keep w → s.keep (w.setChan c cap' buf' cl' a' b' tm')
  mem : ∀ l, s.still l → l.isMemory = true

def Rest (P : Program) (T : Trace) (i n : Nat) (g : Goroutine) : Option Seat → Prop
  | none => 0 < i ∧ QuitsD P n (Deaf T i) g
  | some s => Sits P (i == 0) s.keep s.still s.B s.base n g

def St (Inb : Nat → Option Seat) (g : Nat) (l : Loc) : Prop := ∃ s, Inb g = some s ∧ s.still l
/-- Who hears: whoever sits; whoever holds, unless it is deaf so many times. -/
def Mem (Inb : Nat → Option Seat) (h dd g : Nat) : Prop := (g = h ∧ dd = 0) ∨ ∃ s, Inb g = some s

/-- The frame; goroutine h's own record is spoken of apart. -/
structure Core (P : Program) (Inb : Nat → Option Seat) (h dd : Nat) (T : Trace) (gs : Array Goroutine) (w : World) (q : Nat → Nat) : Prop where
  idle : ∀ i g, i ≠ h → gs[i]? = some g → Rest P T i (q i) g (Inb i)
  chans : ∀ i s, Inb i = some s → ∃ k, w.heap[s.c]? = some (.chan 0 #[] false k k false)
  wf : ∀ i s, Inb i = some s → s.Wf
  inj : ∀ i i' s s', Inb i = some s → Inb i' = some s' → s.c = s'.c → i = i'
  above : ∀ j, gs.size ≤ j → Deaf T j = 0 ∧ Inb j = none
  free : Inb h = none
  past : Held (St Inb) (Mem Inb h dd) h T
  deaf : Deaf T h = dd
  keep : ∀ i s, Inb i = some s → s.keep w

section
variable {P : Program} {Inb : Nat → Option Seat} {h dd : Nat} {T : Trace} {gs : Array Goroutine} {w : World} {q : Nat → Nat}

theorem has_base {s : Seat} {c : Nat} : s.base.has c ↔ c = s.c := Conc.Seat.one_has
theorem wf_base (s : Seat) : s.base.Wf := Conc.Seat.one_wf _ _ _ _
theorem cases_base (s : Seat) : s.base.cases = #[rcase s.c s.z] := rfl

theorem Core.fixed (C : Core P Inb h dd T gs w q) {x : Nat} {y : Goroutine} (hx : x ≠ h) (hy : gs[x]? = some y) : y.again w = y := by
  have hr := C.idle x y hx hy
  cases e : Inb x with
  | none => rw [e] at hr; exact again_of_running hr.2.status w
  | some s =>
    rw [e] at hr
    exact Sits.again (C.keep x s e) hr (wf_base s) fun c hc => by
      obtain rfl := has_base.1 hc
      obtain ⟨k, hk⟩ := C.chans x s e
      exact ⟨_, _, _, _, _, hk⟩

theorem Core.noSend (C : Core P Inb h dd T gs w q) {x : Nat} {y : Goroutine} (hx : x ≠ h) (hy : gs[x]? = some y) (c : Nat) : offersAt y c true = [] := by
  have hr := C.idle x y hx hy
  cases e : Inb x with
  | none =>
    rw [e] at hr
    exact offersAt_of_not_blocked (fun hb => by rcases hr.2.status with z | z <;> rw [z] at hb <;> cases hb) c true
  | some s =>
    rw [e] at hr
    rcases hr with ⟨k, w₀, hq, hg⟩ | ⟨_, _, g₂, rfl, _⟩
    · have := (Sits.status (C.keep x s e) (.inl ⟨k, w₀, hq, hg⟩)).elim (·.1) (fun z => by omega)
      exact offersAt_of_not_blocked (fun hb => by rw [this] at hb; cases hb) c true
    · exact offersAt_parked_sends (fun cc hcc => by obtain ⟨c', z', rfl⟩ := (wf_base s).recvs cc hcc; rfl) _

theorem Core.noRecvAt (C : Core P Inb h dd T gs w q) {x : Nat} {y : Goroutine} (hx : x ≠ h) (hy : gs[x]? = some y) {c : Nat} (hc : ∀ s, Inb x = some s → s.c ≠ c) : offersAt y c false = [] := by
  have hr := C.idle x y hx hy
  cases e : Inb x with
  | none =>
    rw [e] at hr
    exact offersAt_of_not_blocked (fun hb => by rcases hr.2.status with z | z <;> rw [z] at hb <;> cases hb) c false
  | some s =>
    rw [e] at hr
    rcases hr with ⟨k, w₀, hq, hg⟩ | ⟨_, _, g₂, rfl, _⟩
    · have := (Sits.status (C.keep x s e) (.inl ⟨k, w₀, hq, hg⟩)).elim (·.1) (fun z => by omega)
      exact offersAt_of_not_blocked (fun hb => by rw [this] at hb; cases hb) c false
    · refine offersAt_parked_off (fun cc hcc ec => ?_) _
      rw [cases_base] at hcc
      obtain rfl : cc = rcase s.c s.z := by simpa using hcc
      simp only [rcase, Value.chan.injEq, Option.some.injEq] at ec
      exact hc s e ec

theorem Core.at (C : Core P Inb h dd T gs w q) (d : Nat) : Core P Inb h dd T gs (w.at d) q :=
  ⟨C.idle, C.chans, C.wf, C.inj, C.above, C.free, C.past, C.deaf, fun i s e => (C.wf i s e).at' w d (C.keep i s e)⟩

/-- One bystander's record is laid anew; the world stands. -/
theorem Core.put (C : Core P Inb h dd T gs w q) {i n' : Nat} {g' : Goroutine} {ops : Array MemOp} {gs' : Array Goroutine} (hih : i ≠ h) (hlt : i < gs.size) (hsz : gs'.size = gs.size) (hother : ∀ x, x ≠ i → gs'[x]? = gs[x]?) (hself : gs'[i]? = some g')
    (hops : ∀ op ∈ ops, op.g = i) (hidle : Rest P (T ++ ops) i n' g' (Inb i)) (hpast : Held (St Inb) (Mem Inb h dd) h (T ++ ops)) : Core P Inb h dd (T ++ ops) gs' w (upd q i n') := by
  refine ⟨fun x y hx hy => ?_, C.chans, C.wf, C.inj, fun j hj => ⟨?_, (C.above j (by omega)).2⟩, C.free, hpast, (Deaf_other T hih ops hops).trans C.deaf, C.keep⟩
  · by_cases e : x = i
    · subst e
      rw [hself] at hy
      obtain rfl := Option.some.inj hy
      rw [upd_same]; exact hidle
    · rw [hother x e] at hy
      rw [upd_ne q n' e]
      have hr := C.idle x y hx hy
      cases es : Inb x with
      | none => rw [es] at hr; exact ⟨hr.1, by rw [Deaf_other T (fun z => e z.symm) ops hops]; exact hr.2⟩
      | some s => rw [es] at hr; exact hr
  · rw [Deaf_other T (g' := i) (by omega) ops hops]
    exact (C.above j (by omega)).1

theorem evC_ops' {s : Seat} {i : Nat} {fn : FuncId} {pos : String} {es : Array Event} (he : ∀ e ∈ es, EvC s.still s.B e) :
    (∀ op ∈ MemOp.ofEvents i fn pos es, op.g = i) ∧ (∀ op ∈ MemOp.ofEvents i fn pos es, ∀ b, op.act.touch? = some b → b.write = false ∧ s.still b.loc) ∧ ∀ t : Trace, Deaf (t ++ MemOp.ofEvents i fn pos es) i = Deaf t i := by
  obtain ⟨a, b, _, d⟩ := evC_ops (i := i) (fn := fn) (pos := pos) he
  exact ⟨a, b, d⟩

/-- A bystander's step: a leaver slips; a seated one goes a step of its way, or comes to its receive and is parked. -/
theorem Core.by_step (C : Core P Inb h dd T gs w q) {i : Nat} {g : Goroutine} {sl : Option (Nat × Nat)} (hi : gs[i]? = some g) (hih : i ≠ h) (hrun : g.status = .running)
    (hsA : ∀ gx, gs[h]? = some gx → gx.again w = gx) (hsO : ∀ s g₂, Inb i = some s → AtIn P (i == 0) s.keep s.still s.B s.base g g₂ → ∀ gx, gs[h]? = some gx → offersAt gx s.c true = []) :
    ∃ (gs' : Array Goroutine) (ops : Array MemOp) (q' : Nat → Nat), runT P (crowd gs w sl) i = (.next (crowd gs' w sl), ops) ∧ gs'.size = gs.size ∧ gs'[h]? = gs[h]? ∧ (∀ x, x ≠ i → q' x = q x) ∧ (∀ s, Inb i = some s → q' i = 0 → ∃ g₂, AtIn P (i == 0) s.keep s.still s.B s.base g g₂) ∧
      Core P Inb h dd (T ++ ops) gs' w q' ∧ sumTo gs.size q' < sumTo gs.size q := by
  have hlt : i < gs.size := (Array.getElem?_eq_some_iff.1 hi).1
  have hfix : ∀ (a a' : Goroutine) (x : Nat) (y : Goroutine), gs[x]? = some y → woken P a a' w y = y := fun a a' x y hy => woken_of_again (by
    by_cases hx : x = h
    · subst hx; exact hsA y hy
    · exact C.fixed hx hy)
  have harr : ∀ (a' g' : Goroutine) (x : Nat), x ≠ i → ((gs.map (woken P g a' w)).setIfInBounds i g')[x]? = gs[x]? := by
    intro a' g' x hx
    rw [Array.getElem?_setIfInBounds_ne (fun e => hx e.symm), Array.getElem?_map]
    cases e : gs[x]? with
    | none => rfl
    | some y => simp [hfix g a' x y e]
  have hself : ∀ (a' g' : Goroutine), ((gs.map (woken P g a' w)).setIfInBounds i g')[i]? = some g' := fun a' g' => Array.getElem?_setIfInBounds_self_of_lt (by simpa using hlt)
  have hsum : ∀ k, q i = k + 1 → sumTo gs.size (upd q i k) < sumTo gs.size q := by
    intro k hqi
    have h2 : sumTo gs.size (upd q i k) + (k + 1) = sumTo gs.size q + k := by
      have := sumTo_upd q k id hlt
      simpa [hqi] using this
    omega
  have hid := C.idle i g hih hi
  cases e : Inb i with
  | none =>
    rw [e] at hid
    obtain ⟨hpos, hq⟩ := hid
    have hi0 : (i == 0) = false := by simp; omega
    cases hqi : q i with
    | zero => rw [hqi] at hq; rw [hq.1] at hrun; cases hrun
    | succ k =>
      rw [hqi] at hq
      rcases hq with ⟨hf, _⟩ | ⟨_, g', es, hm, hstp, hq'⟩
      · rw [hf] at hrun; cases hrun
      have hops : ∀ op ∈ MemOp.ofEvents i g.frame.fn g.frame.place es, op.g = i := fun op hop => by obtain ⟨e, _, rfl⟩ := Conc.mem_ofEvents hop; rfl
      refine ⟨_, _, upd q i k, runT_crowd_go (sl := sl) hi (by rw [hi0]; exact hstp w), by simp, harr _ _ h (Ne.symm hih), fun x hx => upd_ne q k hx, fun s hs _ => (by cases hs), ?_, hsum k hqi⟩
      refine C.put hih hlt (by simp) (harr _ _) (hself _ _) hops (by rw [e]; exact ⟨hpos, by rw [Deaf_own]; exact hq'⟩) ?_
      exact C.past.mute hops (fun op hop => by obtain ⟨e, he, rfl⟩ := Conc.mem_ofEvents hop; exact touch_mute (hm e he)) (fun hM => by
        rcases hM with z | ⟨s, z⟩
        · exact absurd z.1 hih
        · rw [e] at z; cases z)
  | some s =>
    rw [e] at hid
    have hkp := C.keep i s e
    obtain ⟨k, w₀, hqi, hg⟩ : ∃ k w₀, q i = k + 1 ∧ Goes P (i == 0) (RK s.keep) (DS s.still s.B) (fun g _ => ∃ g₂, AtIn P (i == 0) s.keep s.still s.B s.base g g₂) k g w₀ := by
      rcases hid with h | ⟨_, _, g₂, rfl, _⟩
      · exact h
      · cases hrun
    have hcase : (∃ g₂, AtIn P (i == 0) s.keep s.still s.B s.base g g₂) ∨ ∃ k' g' es, k = k' + 1 ∧ stepG P (i == 0) g w = .go g' w es ∧ (∀ e ∈ es, EvC s.still s.B e) ∧ Goes P (i == 0) (RK s.keep) (DS s.still s.B) (fun g _ => ∃ g₂, AtIn P (i == 0) s.keep s.still s.B s.base g g₂) k' g' w := by
      cases k with
      | zero => exact .inl (hg w hkp)
      | succ k' =>
        rcases hg with hstop | ⟨_, hstep⟩
        · exact .inl (hstop w hkp)
        · have hs := hstep w hkp
          cases hgo : stepG P (i == 0) g w with
          | go g' w' es =>
            rw [hgo, goes_go] at hs
            obtain ⟨⟨rfl, hes⟩, hG'⟩ := hs
            exact .inr ⟨k', g', es, rfl, rfl, hes, hG'⟩
          | _ => rw [hgo] at hs; exact hs.elim
    rcases hcase with ⟨g₂, hat⟩ | ⟨k', g', es, rfl, hgo, hes, hG'⟩
    · have hsO' := hsO s g₂ e hat
      obtain ⟨_, _, _, _, _, es, hes, hstp⟩ := id hat
      obtain ⟨hops, hr, hd⟩ := evC_ops' (s := s) (i := i) (fn := g.frame.fn) (pos := g.frame.place) hes
      have hw : ∀ cc ∈ s.base.cases, NoWays w (gs.setIfInBounds i ph) cc := by
        intro cc hcc
        rw [cases_base] at hcc
        obtain rfl : cc = rcase s.c s.z := by simpa using hcc
        obtain ⟨kk, hc⟩ := C.chans i s e
        refine ways_recv_none hc (partners_nil fun x y hy => ?_)
        rcases getElem?_stand gs i x y hy with ⟨_, rfl⟩ | ⟨hx, hy'⟩
        · exact offersAt_ph _ _
        · by_cases hS : x = h
          · subst hS; exact hsO' y hy'
          · exact C.noSend hS hy' _
      refine ⟨_, _, upd q i 0, crowd_waits (sl := sl) hi (hstp w hkp) hw, by simp, Array.getElem?_setIfInBounds_ne hih, fun x hx => upd_ne q 0 hx, fun s' hs' _ => (by obtain rfl := Option.some.inj hs'; exact ⟨g₂, hat⟩), ?_, ?_⟩
      · refine C.put hih hlt (by simp) (fun x hx => Array.getElem?_setIfInBounds_ne (fun z => hx z.symm)) (Array.getElem?_setIfInBounds_self_of_lt hlt) hops (by rw [e]; exact .inr ⟨rfl, g, g₂, rfl, hat⟩) ?_
        exact C.past.read hih hops (fun op hop b hb => ⟨(hr op hop b hb).1, s, e, (hr op hop b hb).2⟩) (hd T)
      · have h2 : sumTo gs.size (upd q i 0) + (k + 1) = sumTo gs.size q + 0 := by
          have := sumTo_upd q 0 id hlt
          simpa [hqi] using this
        omega
    · obtain ⟨hops, hr, hd⟩ := evC_ops' (s := s) (i := i) (fn := g.frame.fn) (pos := g.frame.place) hes
      refine ⟨_, _, upd q i (k' + 1), runT_crowd_go (sl := sl) hi hgo, by simp, harr _ _ h (Ne.symm hih), fun x hx => upd_ne q _ hx, fun s' _ h0 => (by rw [upd_same] at h0; omega), ?_, hsum _ hqi⟩
      refine C.put hih hlt (by simp) (harr _ _) (hself _ _) hops (by rw [e]; exact .inl ⟨k', w, rfl, hG'⟩) ?_
      exact C.past.read hih hops (fun op hop b hb => ⟨(hr op hop b hb).1, s, e, (hr op hop b hb).2⟩) (hd T)

/-- What a step of the holder's may list. -/
def EvH (Inb : Nat → Option Seat) (e : Event) : Prop := (∀ x, (MemAct.ofEvent e).touch? = some x → ∀ g, St Inb g x.loc → x.write = false) ∧ e.loc ≠ .mark .disable ∧ e.loc ≠ .mark .enable
/-- The holder's guarantee. -/
def DHold (Inb : Nat → Option Seat) (w w' : World) (es : Array Event) : Prop :=
  (∀ i s, Inb i = some s → s.keep w → s.keep w') ∧ (∀ i s, Inb i = some s → w'.heap[s.c]? = w.heap[s.c]?) ∧ ∀ e ∈ es, EvH Inb e

theorem evH_ops {i : Nat} {fn : FuncId} {pos : String} {es : Array Event} (he : ∀ e ∈ es, EvH Inb e) :
    (∀ op ∈ MemOp.ofEvents i fn pos es, op.g = i) ∧ (∀ op ∈ MemOp.ofEvents i fn pos es, ∀ b, op.act.touch? = some b → ∀ g, St Inb g b.loc → b.write = false) ∧ ∀ t : Trace, Deaf (t ++ MemOp.ofEvents i fn pos es) i = Deaf t i :=
  ⟨fun op hop => by obtain ⟨e, _, rfl⟩ := Conc.mem_ofEvents hop; rfl, fun op hop b hb => by obtain ⟨e, h, rfl⟩ := Conc.mem_ofEvents hop; exact (he e h).1 b hb,
    fun t => by rw [Deaf_own]; exact deafBehind_still (fun e h => ⟨(he e h).2.1, (he e h).2.2⟩) _⟩

theorem Core.deafs (C : Core P Inb h dd T gs w q) {ops : Array MemOp} (hops : ∀ op ∈ ops, op.g = h) (hd : Deaf (T ++ ops) h = Deaf T h) : ∀ x, Deaf (T ++ ops) x = Deaf T x := fun x => by
  by_cases e : x = h
  · subst e; exact hd
  · exact Deaf_other T (fun z => e z.symm) _ hops

/-- The holder's own step. -/
theorem Core.own (C : Core P Inb h dd T gs w q) {a a' : Goroutine} {w' : World} {es : Array Event} (ha : gs[h]? = some a) (hd : DHold Inb w w' es) :
    Core P Inb h dd (T ++ MemOp.ofEvents h a.frame.fn a.frame.place es) ((gs.map (woken P a a' w')).setIfInBounds h a') w' q ∧ ((gs.map (woken P a a' w')).setIfInBounds h a')[h]? = some a' := by
  have hlt : h < gs.size := (Array.getElem?_eq_some_iff.1 ha).1
  obtain ⟨hops, hs, hdf⟩ := evH_ops (i := h) (fn := a.frame.fn) (pos := a.frame.place) hd.2.2
  have hD := C.deafs hops (hdf T)
  have C' : Core P Inb h dd T gs w' q := ⟨C.idle, fun i s e => by obtain ⟨k, hk⟩ := C.chans i s e; exact ⟨k, by rw [hd.2.1 i s e]; exact hk⟩, C.wf, C.inj, C.above, C.free, C.past, C.deaf, fun i s e => hd.1 i s e (C.keep i s e)⟩
  refine ⟨⟨fun x y hx hy => ?_, C'.chans, C.wf, C.inj, fun j hj => ?_, C.free, C.past.own hops hs (fun _ => hdf T), (hdf T).trans C.deaf, C'.keep⟩, Array.getElem?_setIfInBounds_self_of_lt (by simpa using hlt)⟩
  · rw [Array.getElem?_setIfInBounds_ne (fun e => hx e.symm), Array.getElem?_map] at hy
    obtain ⟨y₀, hy₀, rfl⟩ := Option.map_eq_some_iff.1 hy
    rw [woken_of_again (C'.fixed hx hy₀)]
    have hi := C.idle x y₀ hx hy₀
    cases es' : Inb x with
    | none => rw [es'] at hi; exact ⟨hi.1, by rw [hD]; exact hi.2⟩
    | some s => rw [es'] at hi; exact hi
  · simp only [Array.size_setIfInBounds, Array.size_map] at hj
    rw [hD]; exact C.above j hj

theorem Core.awake (C : Core P Inb h dd T gs w q) {a : Goroutine} (ha : gs[h]? = some a) (hs : a.status = .running ∨ a.status = .blocked) : ∀ g ∈ gs, awake g := by
  intro g hg
  obtain ⟨i, hi, rfl⟩ := Array.mem_iff_getElem.1 hg
  by_cases e : i = h
  · subst e
    have : gs[i] = a := by simpa [Array.getElem?_eq_getElem hi] using ha
    rw [this]; exact awake_of (hs.elim .inl fun x => .inr (.inl x))
  · have hid := C.idle i _ e (Array.getElem?_eq_getElem hi)
    cases es : Inb i with
    | none => rw [es] at hid; exact awake_of (hid.2.status.elim .inl fun x => .inr (.inr x))
    | some s => rw [es] at hid; exact awake_of ((Sits.status (C.keep i s es) hid).elim (fun x => .inl x.1) fun x => .inr (.inl x.1))

/-- The holder, running, is picked in the end. -/
theorem picked {a : Goroutine} {sl : Option (Nat × Nat)} (ha : gs[h]? = some a) (hrun : a.status = .running) (C : Core P Inb h dd T gs w q) :
    ∃ (N : Nat) (gs' : Array Goroutine) (d d' : Nat) (sl' sl'' : Option (Nat × Nat)) (T' : Trace) (q' : Nat → Nat), runNT P N (crowd gs w sl) T = (.next (crowd gs' (w.at d) sl'), T') ∧
      stepT P (crowd gs' (w.at d) sl') = runT P (crowd gs' (w.at d') sl'') h ∧ gs'.size = gs.size ∧ gs'[h]? = some a ∧ Core P Inb h dd T' gs' (w.at d') q' := by
  obtain ⟨N, m', T', hr, gs', d, d', sl', sl'', q', rfl, hst, hsz, ha', C'⟩ := runs_until (P := P)
    (Inv := fun μ m t => ∃ gs₁ d sl₁ q₁, m = crowd gs₁ (w.at d) sl₁ ∧ gs₁.size = gs.size ∧ gs₁[h]? = some a ∧ Core P Inb h dd t gs₁ (w.at d) q₁ ∧ μ = sumTo gs₁.size q₁)
    (Done := fun m t => ∃ gs₁ d d' sl₁ sl₂ q₁, m = crowd gs₁ (w.at d) sl₁ ∧ stepT P (crowd gs₁ (w.at d) sl₁) = runT P (crowd gs₁ (w.at d') sl₂) h ∧ gs₁.size = gs.size ∧ gs₁[h]? = some a ∧ Core P Inb h dd t gs₁ (w.at d') q₁)
    (fun μ m t ⟨gs₁, d, sl₁, q₁, hm, hsz, ha₁, C₁, hμ⟩ => by
      subst hm
      obtain ⟨i, g, d', sl', hi, hg, hst⟩ := crowd_pick (P := P) (w := w.at d) (sl := sl₁) (C₁.awake ha₁ (.inl hrun)) ⟨h, a, ha₁, hrun⟩
      rw [at_at'] at hst
      have Cd : Core P Inb h dd t gs₁ (w.at d') q₁ := C₁.at d'
      by_cases e : i = h
      · subst e
        exact .inl ⟨gs₁, d, d', sl₁, sl', q₁, rfl, hst, hsz, ha₁, Cd⟩
      · obtain ⟨gs', ops, q', hrt, hsz', hsp, _, _, C', hlt⟩ := Cd.by_step (sl := sl') hi e hg
          (fun gx hgx => by rw [ha₁] at hgx; obtain rfl := Option.some.inj hgx; exact again_of_running (.inl hrun) _)
          (fun s g₂ _ _ gx hgx => by rw [ha₁] at hgx; obtain rfl := Option.some.inj hgx; exact offersAt_of_not_blocked (by rw [hrun]; simp) _ _)
        exact .inr ⟨_, _, sumTo gs'.size q', by rw [hst]; exact hrt, by rw [hsz']; omega, gs', d', sl', q', rfl, hsz'.trans hsz, by rw [hsp]; exact ha₁, C', rfl⟩)
    _ _ T ⟨gs, w.drawn, sl, q, rfl, rfl, ha, C, rfl⟩
  exact ⟨N, gs', d, d', sl', sl'', T', q', hr, hst, hsz, ha', C'⟩

/-- The holder's step that lists marks alone, whatever becomes of its hearing. -/
theorem hold_turn {dd' : Nat} {a a' : Goroutine} {es : Array Event} {sl : Option (Nat × Nat)} (ha : gs[h]? = some a) (hrun : a.status = .running) (hgo : ∀ d, stepG P (h == 0) a (w.at d) = .go a' (w.at d) es) (hes : ∀ e ∈ es, (MemAct.ofEvent e).touch? = none) (hdd : deafBehind dd es = dd') (C : Core P Inb h dd T gs w q) :
    ∃ (N : Nat) (gs' : Array Goroutine) (d : Nat) (sl' : Option (Nat × Nat)) (T' : Trace) (q' : Nat → Nat), runNT P N (crowd gs w sl) T = (.next (crowd gs' (w.at d) sl'), T') ∧ gs'.size = gs.size ∧ gs'[h]? = some a' ∧ Core P Inb h dd' T' gs' (w.at d) q' := by
  obtain ⟨N, gs₁, d, d', sl₁, sl₂, T₁, q₁, hrn, hst, hsz, ha₁, C₁⟩ := picked (sl := sl) ha hrun C
  have hlt : h < gs₁.size := (Array.getElem?_eq_some_iff.1 ha₁).1
  have hstep := runT_crowd_go (P := P) (sl := sl₂) ha₁ (hgo d')
  have hops : ∀ op ∈ MemOp.ofEvents h a.frame.fn a.frame.place es, op.g = h := fun op hop => by obtain ⟨e, _, rfl⟩ := Conc.mem_ofEvents hop; rfl
  have hn : ∀ op ∈ MemOp.ofEvents h a.frame.fn a.frame.place es, op.act.touch? = none := fun op hop => by obtain ⟨e, he, rfl⟩ := Conc.mem_ofEvents hop; exact hes e he
  have hD : Deaf (T₁ ++ MemOp.ofEvents h a.frame.fn a.frame.place es) h = dd' := by rw [Deaf_own, C₁.deaf]; exact hdd
  have hO : ∀ x, x ≠ h → Deaf (T₁ ++ MemOp.ofEvents h a.frame.fn a.frame.place es) x = Deaf T₁ x := fun x hx => Deaf_other T₁ (fun z => hx z.symm) _ hops
  refine ⟨N + 1, _, d', sl₂, _, q₁, runNT_succ_of hrn (hst.trans hstep), by simp [hsz], Array.getElem?_setIfInBounds_self_of_lt (by simpa using hlt), ?_⟩
  refine ⟨fun x y hx hy => ?_, C₁.chans, C₁.wf, C₁.inj, fun j hj => ?_, C₁.free, C₁.past.turn hops hn (fun g hg hne => ?_) (fun hg => ?_), hD, C₁.keep⟩
  · rw [Array.getElem?_setIfInBounds_ne (fun e => hx e.symm), Array.getElem?_map] at hy
    obtain ⟨y₀, hy₀, rfl⟩ := Option.map_eq_some_iff.1 hy
    rw [woken_of_again (C₁.fixed hx hy₀)]
    have hi := C₁.idle x y₀ hx hy₀
    cases es' : Inb x with
    | none => rw [es'] at hi; exact ⟨hi.1, by rw [hO x hx]; exact hi.2⟩
    | some s => rw [es'] at hi; exact hi
  · simp only [Array.size_setIfInBounds, Array.size_map] at hj
    rw [hO j (by omega)]; exact C₁.above j hj
  · rcases hg with z | z
    · exact absurd z.1 hne
    · exact .inr z
  · rcases hg with z | ⟨s, z⟩
    · rw [hD]; exact z.2
    · rw [C₁.free] at z; cases z
/-- The holder's walk, on whatever tape. -/
theorem hold_walkN {D : World → World → Array Event → Prop} {S : Goroutine → World → Prop} (hD : ∀ w w' es, D w w' es → DHold Inb w w' es) {n : Nat} {a : Goroutine} (hG : WalkI P (h == 0) D S n a w) :
    ∀ {gs : Array Goroutine} {T : Trace} {q : Nat → Nat} {sl : Option (Nat × Nat)}, gs[h]? = some a → Core P Inb h (dd + n) T gs w q →
      ∃ (N : Nat) (gs' : Array Goroutine) (a' : Goroutine) (w' : World) (sl' : Option (Nat × Nat)) (T' : Trace) (q' : Nat → Nat),
        runNT P N (crowd gs w sl) T = (.next (crowd gs' w' sl'), T') ∧ gs'.size = gs.size ∧ gs'[h]? = some a' ∧ S a' w' ∧ Core P Inb h dd T' gs' w' q' := by
  induction hG with
  | stop g w hs => intro gs T q sl ha C; exact ⟨0, gs, g, w, sl, T, q, rfl, rfl, ha, hs, C⟩
  | step n g w g' w' es hr hs hd _ ih =>
    intro gs T q sl ha C
    obtain ⟨N, gs₁, d, d', sl₁, sl₂, T₁, q₁, hrn, hst, hsz, ha₁, C₁⟩ := picked (sl := sl) ha hr C
    have hgo := hs d'
    have hstep := runT_crowd_go (P := P) (sl := sl₂) ha₁ (show stepG P (h == 0) g (w.at d') = .go (g' d') (w' d') (es d') from hgo)
    obtain ⟨C₂, ha₂⟩ := C₁.own (a' := g' d') ha₁ (hD _ _ _ (hd d'))
    obtain ⟨M, gs₃, a₃, w₃, sl₃, T₃, q₃, hr3, hsz3, ha3, hS3, C3⟩ := ih d' (sl := sl₂) ha₂ C₂
    exact ⟨N + 1 + M, gs₃, a₃, w₃, sl₃, T₃, q₃, runNT_then (runNT_succ_of hrn (hst.trans hstep)) hr3, by rw [hsz3]; simpa using hsz, ha3, hS3, C3⟩
  | off n g w g' hr hs _ ih =>
    intro gs T q sl ha C
    obtain ⟨N, gs₁, d, sl₁, T₁, q₁, hrn, hsz, ha₁, C₁⟩ := hold_turn (dd' := dd + (n + 1)) (sl := sl) ha hr (fun d => hs d) (by
      intro e he
      simp only [List.mem_toArray, List.mem_cons, List.not_mem_nil, or_false] at he
      subst he
      rfl) rfl C
    obtain ⟨M, gs₃, a₃, w₃, sl₃, T₃, q₃, hr3, hsz3, ha3, hS3, C3⟩ := ih d (sl := sl₁) ha₁ C₁
    exact ⟨N + M, gs₃, a₃, w₃, sl₃, T₃, q₃, runNT_then hrn hr3, hsz3.trans hsz, ha3, hS3, C3⟩
  | on n g w g' hr hs _ ih =>
    intro gs T q sl ha C
    obtain ⟨N, gs₁, d, sl₁, T₁, q₁, hrn, hsz, ha₁, C₁⟩ := hold_turn (dd' := dd + n) (sl := sl) ha hr (fun d => hs d) (by
      intro e he
      simp only [List.mem_toArray, List.mem_cons, List.not_mem_nil, or_false] at he
      subst he
      rfl) rfl C
    obtain ⟨M, gs₃, a₃, w₃, sl₃, T₃, q₃, hr3, hsz3, ha3, hS3, C3⟩ := ih d (sl := sl₁) ha₁ C₁
    exact ⟨N + M, gs₃, a₃, w₃, sl₃, T₃, q₃, runNT_then hrn hr3, hsz3.trans hsz, ha3, hS3, C3⟩

theorem hold_walk {D : World → World → Array Event → Prop} {S : Goroutine → World → Prop} (hD : ∀ w w' es, D w w' es → DHold Inb w w' es) {a : Goroutine} (hG : WalkI P (h == 0) D S 0 a w)
    {gs : Array Goroutine} {T : Trace} {q : Nat → Nat} {sl : Option (Nat × Nat)} (ha : gs[h]? = some a) (C : Core P Inb h dd T gs w q) :
      ∃ (N : Nat) (gs' : Array Goroutine) (a' : Goroutine) (w' : World) (sl' : Option (Nat × Nat)) (T' : Trace) (q' : Nat → Nat),
        runNT P N (crowd gs w sl) T = (.next (crowd gs' w' sl'), T') ∧ gs'.size = gs.size ∧ gs'[h]? = some a' ∧ S a' w' ∧ Core P Inb h dd T' gs' w' q' := hold_walkN hD hG ha C

end
end Go.Proofs.YtmnahfonnljobaaGreatDoor.SX.Tok
/-
  The holder sends on a channel where another sits: that one holds from then on. The holder starts a goroutine that goes to a seat of its own.
-/
set_option linter.unusedSectionVars false
set_option linter.unusedVariables false
set_option linter.unusedSimpArgs false
namespace Go.Proofs.YtmnahfonnljobaaGreatDoor.SX.Tok
open Go.Conc
open Go.ConcN (sumTo upd sumTo_upd upd_ne upd_same)

/-- The seats behind a send from h to j: h takes a seat, or none; j's is free. -/
def pass (Inb : Nat → Option Seat) (h j : Nat) (so : Option Seat) (x : Nat) : Option Seat := if x = j then none else if x = h then so else Inb x

theorem pass_j (Inb : Nat → Option Seat) (h j : Nat) (so : Option Seat) : pass Inb h j so j = none := by simp [pass]
theorem pass_h (Inb : Nat → Option Seat) {h j : Nat} (hjh : j ≠ h) (so : Option Seat) : pass Inb h j so h = so := by simp [pass, Ne.symm hjh]
theorem pass_ne (Inb : Nat → Option Seat) {h j x : Nat} (so : Option Seat) (hj : x ≠ j) (hh : x ≠ h) : pass Inb h j so x = Inb x := by simp [pass, hj, hh]

/-- What is asked of a new seat: its channel is there, open, empty; nobody else sits there; what it leans on stands. -/
structure Fresh (Inb : Nat → Option Seat) (w : World) (s : Seat) : Prop where
  wf : s.Wf
  keep : s.keep w
  chan : ∃ k, w.heap[s.c]? = some (.chan 0 #[] false k k false)
  apart : ∀ i s', Inb i = some s' → s'.c ≠ s.c

section
variable {P : Program} {Inb : Nat → Option Seat} {h : Nat} {T : Trace} {gs : Array Goroutine} {w : World} {q : Nat → Nat}

/-- The frame behind a meeting. -/
theorem Core.pass (C : Core P Inb h 0 T gs w q) {j : Nat} {s : Seat} (hjh : j ≠ h) (hjlt : j < gs.size) (hlth : h < gs.size) (hj : Inb j = some s) {k : Nat} (hc : w.heap[s.c]? = some (.chan 0 #[] false k k false)) {gs' : Array Goroutine} {T' : Trace} {H' : Goroutine} (hsz : gs'.size = gs.size)
    (hoth : ∀ x, x ≠ h → x ≠ j → gs'[x]? = gs[x]?) (hH : gs'[h]? = some H') (hDeaf : ∀ x, Deaf T' x = Deaf T x) {so : Option Seat} (hso : ∀ s', so = some s' → Fresh Inb w s') {nh : Nat} (hafter : Rest P T' h nh H' so)
    (hpast : Held (St (pass Inb h j so)) (Mem (pass Inb h j so) j 0) j T') : Core P (pass Inb h j so) j 0 T' gs' (w.setChan s.c 0 #[] false (k + 1) (k + 1) false) (upd q h nh) := by
  have inb : ∀ x s', Tok.pass Inb h j so x = some s' → x ≠ j ∧ ((x = h ∧ so = some s') ∨ (x ≠ h ∧ Inb x = some s')) := by
    intro x s' e
    unfold Tok.pass at e
    split at e
    · cases e
    · rename_i hx
      split at e
      · rename_i hxh; exact ⟨hx, .inl ⟨hxh, e⟩⟩
      · rename_i hxh; exact ⟨hx, .inr ⟨hxh, e⟩⟩
  have ne : ∀ x s', Tok.pass Inb h j so x = some s' → s.c ≠ s'.c := by
    intro x s' e
    obtain ⟨hx, ⟨_, e'⟩ | ⟨_, e'⟩⟩ := inb x s' e
    · exact (hso s' e').apart j s hj
    · exact fun ec => hx (C.inj x j s' s e' hj ec.symm)
  refine ⟨fun x y hx hy => ?_, fun x s' e => ?_, fun x s' e => ?_, fun x x' s₁ s₂ e₁ e₂ ec => ?_, fun x hx => ⟨by rw [hDeaf]; exact (C.above x (by omega)).1, ?_⟩, pass_j _ _ _ _, hpast, hpast.hears j (.inl ⟨rfl, rfl⟩), fun x s' e => ?_⟩
  · by_cases e : x = h
    · subst e
      rw [hH] at hy
      obtain rfl := Option.some.inj hy
      rw [upd_same, pass_h Inb hjh]; exact hafter
    · rw [hoth x e hx] at hy
      rw [upd_ne q nh e, pass_ne Inb so hx e]
      have hi := C.idle x y e hy
      cases es : Inb x with
      | none => rw [es] at hi; exact ⟨hi.1, by rw [hDeaf]; exact hi.2⟩
      | some s' => rw [es] at hi; exact hi
  · obtain ⟨k', hk'⟩ : ∃ k', w.heap[s'.c]? = some (.chan 0 #[] false k' k' false) := by
      obtain ⟨_, ⟨_, e'⟩ | ⟨_, e'⟩⟩ := inb x s' e
      · exact (hso s' e').chan
      · exact C.chans x s' e'
    exact ⟨k', by rw [heap_setChan_ne w _ _ _ _ _ _ (ne x s' e)]; exact hk'⟩
  · obtain ⟨_, ⟨_, e'⟩ | ⟨_, e'⟩⟩ := inb x s' e
    · exact (hso s' e').wf
    · exact C.wf x s' e'
  · obtain ⟨_, ⟨a1, b1⟩ | ⟨a1, b1⟩⟩ := inb x s₁ e₁ <;> obtain ⟨_, ⟨a2, b2⟩ | ⟨a2, b2⟩⟩ := inb x' s₂ e₂
    · rw [a1, a2]
    · exact absurd ec.symm ((hso s₁ b1).apart x' s₂ b2)
    · exact absurd ec ((hso s₂ b2).apart x s₁ b1)
    · exact C.inj x x' s₁ s₂ b1 b2 ec
  · rw [pass_ne Inb so (by omega) (by omega)]; exact (C.above x (by omega)).2
  · have hk : s'.keep w := by
      obtain ⟨_, ⟨_, e'⟩ | ⟨_, e'⟩⟩ := inb x s' e
      · exact (hso s' e').keep
      · exact C.keep x s' e'
    have hw : s'.Wf := by
      obtain ⟨_, ⟨_, e'⟩ | ⟨_, e'⟩⟩ := inb x s' e
      · exact (hso s' e').wf
      · exact C.wf x s' e'
    exact hw.chan _ _ _ _ _ _ _ _ _ _ _ _ _ _ hc hk

theorem Core.held_pass (C : Core P Inb h 0 T gs w q) {j : Nat} {s : Seat} (hjh : j ≠ h) (hj : Inb j = some s) {so : Option Seat} (hso : ∀ s', so = some s' → Fresh Inb w s') {t : Trace} (H : Held (St Inb) (Mem Inb h 0) h t) (fh : FuncId) (ph : String) (fj : FuncId) (pj : String) {c : Nat} (k cap : Nat) :
    Held (St (Tok.pass Inb h j so)) (Mem (Tok.pass Inb h j so) j 0) j (t ++ met h j fh ph fj pj c k cap) := by
  have H2 := H.give (St' := St (Tok.pass Inb h j so)) (j := j) (.inl ⟨rfl, rfl⟩) (.inr ⟨s, hj⟩) hjh
    (fun g l h1 h2 ⟨s', e, hs⟩ => ⟨s', by rw [pass_ne Inb so h2 h1] at e; exact e, hs⟩) (fun g l h1 h2 ⟨s', e, hs⟩ => ⟨s', by rw [pass_ne Inb so h2 h1]; exact e, hs⟩)
    (fun l ⟨s', e, _⟩ => by rw [pass_j] at e; cases e) (fun l ⟨s', e, hs⟩ => by rw [pass_h Inb hjh] at e; exact (hso s' e).wf.mem l hs) fh ph fj pj (c := c) k cap
  refine ⟨H2.clean, H2.known, H2.wrote, fun g hg => H2.hears g ?_⟩
  rcases hg with ⟨rfl, _⟩ | ⟨s', e⟩
  · exact .inr ⟨s, hj⟩
  · by_cases e1 : g = h
    · exact .inl ⟨e1, rfl⟩
    · by_cases e2 : g = j
      · subst e2; exact .inr ⟨s, hj⟩
      · rw [pass_ne Inb so e2 e1] at e; exact .inr ⟨s', e⟩

/-- Where goroutine j holds, Conc.served with v. -/
def Given (P : Program) (Inb' : Nat → Option Seat) (j : Nat) (s : Seat) (n : Nat) (w : World) (v : Value) (m : Machine) (t : Trace) : Prop :=
  ∃ (gs' : Array Goroutine) (g₂ : Goroutine) (d k : Nat) (sl' : Option (Nat × Nat)) (q' : Nat → Nat), m = crowd gs' ((w.at d).setChan s.c 0 #[] false (k + 1) (k + 1) false) sl' ∧ gs'.size = n ∧ gs'[j]? = some (Conc.served g₂ (recvd s.ok v true)) ∧ s.home g₂ ∧
    w.heap[s.c]? = some (.chan 0 #[] false k k false) ∧ Core P Inb' j 0 t gs' ((w.at d).setChan s.c 0 #[] false (k + 1) (k + 1) false) q'

/-- The holder's record is laid anew, the world standing; what the step listed is the holder's. -/
theorem Core.setH (C : Core P Inb h 0 T gs w q) (x : Goroutine) {fn : FuncId} {pos : String} {es : Array Event} (hes : ∀ e ∈ es, EvH Inb e) : Core P Inb h 0 (T ++ MemOp.ofEvents h fn pos es) (gs.setIfInBounds h x) w q := by
  obtain ⟨hops, hs, hdf⟩ := evH_ops (i := h) (fn := fn) (pos := pos) hes
  have hD := C.deafs hops (hdf T)
  refine ⟨fun y g hy hg => ?_, C.chans, C.wf, C.inj, fun j hj => ?_, C.free, C.past.own hops hs (fun _ => hdf T), (hdf T).trans C.deaf, C.keep⟩
  · rw [Array.getElem?_setIfInBounds_ne (fun e => hy e.symm)] at hg
    have hi := C.idle y g hy hg
    cases e : Inb y with
    | none => rw [e] at hi; exact ⟨hi.1, by rw [hD]; exact hi.2⟩
    | some s => rw [e] at hi; exact hi
  · simp only [Array.size_setIfInBounds] at hj
    rw [hD]; exact C.above j hj

/-- The holder stands at a send where j sits, or is on its way: on whatever tape j holds in the end, served. -/
theorem give {a a₂ : Goroutine} {j : Nat} {s : Seat} {v z' : Value} {es : Array Event} {sl : Option (Nat × Nat)} (hjh : j ≠ h) (hjlt : j < gs.size) (hj : Inb j = some s) (ha : gs[h]? = some a) (hrun : a.status = .running)
    (hsend : ∀ d, stepG P (h == 0) a (w.at d) = .comm a₂ #[scase s.c v z'] true .send (w.at d) es) (hes : ∀ e ∈ es, EvH Inb e) (C : Core P Inb h 0 T gs w q) {so : Option Seat} (hso : ∀ s', so = some s' → Fresh Inb w s') {nh : Nat} (hafter : ∀ T', Deaf T' h = 0 → Rest P T' h nh (Conc.served a₂ undef) so) :
    ∃ N m' T', runNT P N (crowd gs w sl) T = (.next m', T') ∧ Given P (Tok.pass Inb h j so) j s gs.size w v m' T' := by
  obtain ⟨k, hc⟩ := C.chans j s hj
  have hk : s.base.cases[0]? = some (rcase s.c s.z) := rfl
  have hu : ∀ (m : Nat) (cc : CommCase), m ≠ 0 → s.base.cases[m]? = some cc → cc.chan ≠ .chan (some s.c) := by
    intro m cc hm hcc
    rcases m with _ | m
    · exact absurd rfl hm
    · simp [cases_base] at hcc
  refine runs_until (P := P)
    (Inv := fun μ m t => Given P (Tok.pass Inb h j so) j s gs.size w v m t ∨ ∃ gs₁ d sl₁ q₁, ∃ pk : Bool, m = crowd gs₁ (w.at d) sl₁ ∧ gs₁.size = gs.size ∧ gs₁[h]? = some (if pk then parked a₂ #[scase s.c v z'] .send else a) ∧
      Core P Inb h 0 t gs₁ (w.at d) q₁ ∧ (pk = true → 0 < q₁ j) ∧ μ = sumTo gs₁.size q₁ + (if pk then 0 else 1))
    (fun μ m t hInv => ?_) _ _ T (.inr ⟨gs, w.drawn, sl, q, false, rfl, rfl, ha, C, by simp, rfl⟩)
  rcases hInv with hdone | ⟨gs₁, d, sl₁, q₁, pk, rfl, hsz, ha₁, C₁, hpk, hμ⟩
  · exact .inl hdone
  refine .inr ?_
  obtain ⟨gj, hgj⟩ : ∃ gj, gs₁[j]? = some gj := ⟨gs₁[j]'(by omega), Array.getElem?_eq_getElem (by omega)⟩
  have hlth : h < gs₁.size := (Array.getElem?_eq_some_iff.1 ha₁).1
  have hSj : Sits P (j == 0) s.keep s.still s.B s.base (q₁ j) gj := by have := C₁.idle j gj hjh hgj; rw [hj] at this; exact this
  have hsome : ∃ (i : Nat) (g : Goroutine), gs₁[i]? = some g ∧ g.status = .running := by
    cases pk with
    | false => exact ⟨h, a, ha₁, hrun⟩
    | true => exact ⟨j, gj, hgj, (Sits.status (C₁.keep j s hj) hSj).elim (·.1) (fun z => by have := hpk rfl; omega)⟩
  obtain ⟨i, g, d', sl', hi, hg, hst⟩ := crowd_pick (P := P) (w := w.at d) (sl := sl₁) (C₁.awake ha₁ (by cases pk <;> simp [hrun, parked])) hsome
  rw [at_at'] at hst
  have Cd : Core P Inb h 0 t gs₁ (w.at d') q₁ := C₁.at d'
  have hcd : (w.at d').heap[s.c]? = some (.chan 0 #[] false k k false) := hc
  have hsod : ∀ s', so = some s' → Fresh Inb (w.at d') s' := fun s' e => ⟨(hso s' e).wf, (hso s' e).wf.at' w d' (hso s' e).keep, (hso s' e).chan, (hso s' e).apart⟩
  -- behind either meeting
  have fin : ∀ (gs' : Array Goroutine) (ops₀ : Array MemOp) (g₂ : Goroutine), gs'.size = gs₁.size → (∀ x, x ≠ h → x ≠ j → gs'[x]? = gs₁[x]?) → gs'[h]? = some (Conc.served a₂ undef) → gs'[j]? = some (Conc.served g₂ (recvd s.ok v true)) → s.home g₂ →
      Held (St Inb) (Mem Inb h 0) h (t ++ ops₀) → (∀ x, Deaf (t ++ ops₀) x = Deaf t x) →
      Given P (Tok.pass Inb h j so) j s gs.size w v (crowd gs' ((w.at d').setChan s.c 0 #[] false (k + 1) (k + 1) false) sl') (t ++ (ops₀ ++ met h j a₂.frame.fn a₂.frame.place g₂.frame.fn g₂.frame.place s.c k 0)) := by
    intro gs' ops₀ g₂ hsz' hoth hH hJ hhome p1 hD0
    have hDeaf : ∀ x, Deaf (t ++ (ops₀ ++ met h j a₂.frame.fn a₂.frame.place g₂.frame.fn g₂.frame.place s.c k 0)) x = Deaf t x := fun x => by rw [← Array.append_assoc, Deaf_quiet (met_quiet _ _ _ _ _ _ _ _ _ x), hD0]
    have p2 := Cd.held_pass hjh hj hsod p1 a₂.frame.fn a₂.frame.place g₂.frame.fn g₂.frame.place (c := s.c) k 0
    rw [Array.append_assoc] at p2
    exact ⟨gs', g₂, d', k, sl', upd q₁ h nh, rfl, hsz'.trans hsz, hJ, hhome, hc, Cd.pass hjh (by omega) hlth hj hcd hsz' hoth hH hDeaf hsod (hafter _ (by rw [hDeaf]; exact C₁.past.hears h (.inl ⟨rfl, rfl⟩))) p2⟩
  have hμpos : 0 < μ := by
    cases pk with
    | false => simp at hμ; omega
    | true =>
      have h1 := hpk rfl
      have h2 : q₁ j ≤ sumTo gs₁.size q₁ := Go.ConcN.le_sumTo (f := q₁) (by omega)
      simp at hμ; omega
  have hcr : commResult s.base.cases s.base.shape 0 v true = recvd s.ok v true := commResult_one _ _ _ _ _ _
  by_cases e : i = h
  · subst e
    cases pk with
    | true => rw [ha₁] at hi; obtain rfl := Option.some.inj hi; cases hg
    | false =>
      obtain rfl : g = a := by rw [ha₁] at hi; exact (Option.some.inj hi).symm
      obtain ⟨hops, hs, hdf⟩ := evH_ops (i := i) (fn := g.frame.fn) (pos := g.frame.place) hes
      have hoff : ∀ (x : Nat) (y : Goroutine), x ≠ j → (gs₁.setIfInBounds i ph)[x]? = some y → offersAt y s.c false = [] := by
        intro x y hxj hy
        rcases getElem?_stand gs₁ i x y hy with ⟨_, rfl⟩ | ⟨hx, hy'⟩
        · exact offersAt_ph _ _
        · exact Cd.noRecvAt hx hy' fun s' hs' hc' => hxj (C₁.inj x j s' s hs' hj hc')
      rcases hSj with ⟨kk, w₀, hq, hG⟩ | ⟨hq0, g₀, g₂, rfl, hat⟩
      · -- j is on its way: the holder is parked at its send
        have hjr : gj.status = .running := (Sits.status (C₁.keep j s hj) (.inl ⟨kk, w₀, hq, hG⟩)).elim (·.1) (fun z => by omega)
        have hp : partners (gs₁.setIfInBounds i ph) s.c false = [] := partners_nil fun x y hy => by
          by_cases hxj : x = j
          · subst hxj
            rw [stand_get hjh hgj] at hy
            obtain rfl := Option.some.inj hy
            exact offersAt_of_not_blocked (by rw [hjr]; simp) _ _
          · exact hoff x y hxj hy
        have hw : ∀ cc ∈ #[scase s.c v z'], NoWays (w.at d') (gs₁.setIfInBounds i ph) cc := by
          intro cc hcc
          simp only [List.mem_toArray, List.mem_cons, List.not_mem_nil, or_false] at hcc
          subst hcc
          exact ways_send_none hcd (Nat.le_refl _) hp
        exact ⟨_, _, sumTo gs₁.size q₁ + 0, by rw [hst]; exact crowd_waits (sl := sl') hi (hsend d') hw, by simp at hμ; omega, .inr ⟨_, d', sl', q₁, true, rfl, by simpa using hsz, Array.getElem?_setIfInBounds_self_of_lt hlth, Cd.setH _ hes, fun _ => by omega, by simp⟩⟩
      · -- j is parked: the meeting
        have hp : partners (gs₁.setIfInBounds i ph) s.c false = [(j, 0)] := by
          rw [partners_one (stand_get hjh hgj) fun x y hxj hy => hoff x y hxj hy, offersAt_parked_at hk hu]
          rfl
        refine ⟨_, _, 0, by rw [hst]; exact crowd_send_meets_sel (sl := sl') hi (hsend d') hcd hjh hgj hk hp, hμpos, .inl ?_⟩
        exact fin _ _ g₂ (by simp) (fun x hx hxj => by rw [Array.getElem?_setIfInBounds_ne (fun z => hx z.symm), Array.getElem?_setIfInBounds_ne (fun z => hxj z.symm)]) (Array.getElem?_setIfInBounds_self_of_lt (by simpa using hlth))
          (by rw [Array.getElem?_setIfInBounds_ne (fun z => hjh z.symm), Array.getElem?_setIfInBounds_self_of_lt (by omega), finishComm_served]; exact congrArg (fun x => some (Conc.served g₂ x)) hcr) hat.2.2.2.2.1 (C₁.past.own hops hs fun _ => hdf t) (Cd.deafs hops (hdf t))
  · by_cases ej : i = j ∧ pk = true ∧ ∃ g₂, AtIn P (i == 0) s.keep s.still s.B s.base g g₂
    · -- j comes to its receive and meets the parked holder
      obtain ⟨rfl, rfl, g₂, hat⟩ := ej
      obtain ⟨_, _, _, _, hhome, esj, hesj, hstp⟩ := hat
      obtain ⟨hops, hr, hd⟩ := evC_ops' (s := s) (i := i) (fn := g.frame.fn) (pos := g.frame.place) hesj
      have hp : partners (gs₁.setIfInBounds i ph) s.c true = [(h, 0)] := by
        rw [partners_one (stand_get (Ne.symm hjh) ha₁) fun x y hxh hy => by
          rcases getElem?_stand gs₁ i x y hy with ⟨_, rfl⟩ | ⟨_, hy'⟩
          · exact offersAt_ph _ _
          · exact Cd.noSend hxh hy' _]
        simp [offersAt_parked_send]
      have ho : ∀ (m : Nat) (c' : CommCase), m ≠ 0 → s.base.cases[m]? = some c' → NoWays (w.at d') (gs₁.setIfInBounds i ph) c' := by
        intro m c' hm hc'
        rcases m with _ | m
        · exact absurd rfl hm
        · simp [cases_base] at hc'
      refine ⟨_, _, 0, by rw [hst]; exact crowd_sel_recv_meets (sl := sl') hi (hstp _ (Cd.keep i s hj)) hk ho hcd (Ne.symm hjh) ha₁ hp, hμpos, .inl ?_⟩
      exact fin _ _ g₂ (by simp) (fun x hx hxj => by rw [Array.getElem?_setIfInBounds_ne (fun z => hxj z.symm), Array.getElem?_setIfInBounds_ne (fun z => hx z.symm)])
        (by rw [Array.getElem?_setIfInBounds_ne hjh, Array.getElem?_setIfInBounds_self_of_lt hlth, finishComm_send]) (by rw [Array.getElem?_setIfInBounds_self_of_lt (by simp; omega), finishComm_served]; exact congrArg (fun x => some (Conc.served g₂ x)) hcr) hhome
        (C₁.past.read hjh hops (fun op hop b hb => ⟨(hr op hop b hb).1, s, hj, (hr op hop b hb).2⟩) (hd t))
        (fun x => by
          by_cases ex : x = i
          · subst ex; exact hd t
          · exact Deaf_other t (fun z => ex z.symm) _ hops)
    · -- a bystander's step
      obtain ⟨gs', ops, q', hrt, hsz', hsp, hqo, hq0, C', hlt⟩ := Cd.by_step (sl := sl') hi e hg
        (fun gx hgx => by
          rw [ha₁] at hgx; obtain rfl := Option.some.inj hgx
          cases pk with
          | false => exact again_of_running (.inl hrun) _
          | true => exact again_send_open hcd)
        (fun s' g₂ hs' hat gx hgx => by
          rw [ha₁] at hgx; obtain rfl := Option.some.inj hgx
          cases pk with
          | false => exact offersAt_of_not_blocked (by simp [hrun]) _ _
          | true =>
            simp only [if_true]
            rw [offersAt_parked_send, if_neg]
            intro ec
            have hij : i = j := C₁.inj i j s' s hs' hj ec.symm
            subst hij
            rw [hj] at hs'
            obtain rfl := Option.some.inj hs'
            exact ej ⟨rfl, rfl, g₂, hat⟩)
      refine ⟨_, _, sumTo gs'.size q' + (if pk then 0 else 1), by rw [hst]; exact hrt, by rw [hsz']; omega, .inr ⟨gs', d', sl', q', pk, rfl, hsz'.trans hsz, by rw [hsp]; exact ha₁, C', fun hp => ?_, rfl⟩⟩
      subst hp
      by_cases hij : j = i
      · subst hij
        rcases Nat.eq_zero_or_pos (q' j) with h0 | h0
        · obtain ⟨g₂, hat⟩ := hq0 s hj h0
          exact absurd ⟨rfl, rfl, g₂, hat⟩ ej
        · exact h0
      · rw [hqo j hij]; exact hpk rfl

/-- The holder stands at a go statement; the child goes to a seat of its own. -/
theorem hire {a a' child : Goroutine} {es : Array Event} {sl : Option (Nat × Nat)} (ha : gs[h]? = some a) (hrun : a.status = .running) (hgo : ∀ d, stepG P (h == 0) a (w.at d) = .spawn a' child (w.at d) es) (hes : ∀ e ∈ es, EvH Inb e) (C : Core P Inb h 0 T gs w q)
    (sn : Seat) (hsn : Fresh Inb w sn) {nc : Nat} (hchild : Sits P false sn.keep sn.still sn.B sn.base nc child) :
    ∃ (N : Nat) (gs' : Array Goroutine) (d : Nat) (sl' : Option (Nat × Nat)) (T' : Trace) (q' : Nat → Nat), runNT P N (crowd gs w sl) T = (.next (crowd gs' (w.at d) sl'), T') ∧ gs'.size = gs.size + 1 ∧ gs'[h]? = some a' ∧ Core P (upd Inb gs.size (some sn)) h 0 T' gs' (w.at d) q' := by
  obtain ⟨N, gs₁, d, d', sl₁, sl₂, T₁, q₁, hr, hst, hsz, ha₁, C₁⟩ := picked (sl := sl) ha hrun C
  have hlt : h < gs₁.size := (Array.getElem?_eq_some_iff.1 ha₁).1
  obtain ⟨hops, hs, hdf⟩ := evH_ops (i := h) (fn := a.frame.fn) (pos := a.frame.place) hes
  have hrt := runT_crowd_spawn (P := P) (sl := sl₂) ha₁ (hgo d')
  have hpush : ((MemOp.ofEvents h a.frame.fn a.frame.place es).push { g := h, fn := a.frame.fn, pos := a.frame.place, act := .go gs₁.size } |>.push { g := gs₁.size, fn := child.frame.fn, pos := a.frame.place, act := .start }) =
      MemOp.ofEvents h a.frame.fn a.frame.place es ++ #[{ g := h, fn := a.frame.fn, pos := a.frame.place, act := .go gs₁.size }, { g := gs₁.size, fn := child.frame.fn, pos := a.frame.place, act := .start }] := by
    apply Array.ext'; simp
  rw [hpush] at hrt
  have p1 := C₁.past.own hops hs fun _ => hdf T₁
  have hD1 := C₁.deafs hops (hdf T₁)
  have hnone : Inb gs₁.size = none := (C₁.above _ (Nat.le_refl _)).2
  have hup : ∀ x, x ≠ gs₁.size → upd Inb gs₁.size (some sn) x = Inb x := fun x hx => upd_ne Inb _ hx
  have p2 := p1.hire (c := gs₁.size) (St' := St (upd Inb gs₁.size (some sn))) (.inl ⟨rfl, rfl⟩) (by rw [hD1]; exact (C₁.above _ (Nat.le_refl _)).1) (by omega)
    (fun g l hg => ⟨fun ⟨s, e, x⟩ => ⟨s, by rw [hup g hg] at e; exact e, x⟩, fun ⟨s, e, x⟩ => ⟨s, by rw [hup g hg]; exact e, x⟩⟩)
    (fun l ⟨s, e, _⟩ => by rw [hnone] at e; cases e) (fun l ⟨s, e, x⟩ => by rw [upd_same] at e; obtain rfl := Option.some.inj e; exact hsn.wf.mem l x) a.frame.fn a.frame.place child.frame.fn
  rw [Array.append_assoc] at p2
  have hD2 : ∀ x, Deaf (T₁ ++ (MemOp.ofEvents h a.frame.fn a.frame.place es ++ #[{ g := h, fn := a.frame.fn, pos := a.frame.place, act := .go gs₁.size }, { g := gs₁.size, fn := child.frame.fn, pos := a.frame.place, act := .start }])) x = Deaf T₁ x := fun x => by
    rw [← Array.append_assoc, Deaf_quiet (fun op hop d => by
      simp only [List.mem_toArray, List.mem_cons, List.not_mem_nil, or_false] at hop
      rcases hop with rfl | rfl <;> rfl), hD1]
  refine ⟨N + 1, _, d', sl₂, _, upd q₁ gs₁.size nc, runNT_succ_of hr (hst.trans hrt), by simp [hsz], (by rw [Array.getElem?_push, if_neg (by simp; omega)]; exact Array.getElem?_setIfInBounds_self_of_lt hlt), ?_⟩
  rw [← hsz]
  refine ⟨fun x y hx hy => ?_, fun i s e => ?_, fun i s e => ?_, fun i i' s₁ s₂ e₁ e₂ ec => ?_, fun x hx => ?_, by rw [hup h (by omega)]; exact C₁.free, ⟨p2.clean, p2.known, p2.wrote, fun g hg => p2.hears g ?_⟩, (hD2 h).trans C₁.deaf, fun i s e => ?_⟩
  · by_cases ex : x = gs₁.size
    · subst ex
      rw [Array.getElem?_push, if_pos (by simp)] at hy
      obtain rfl := Option.some.inj hy
      rw [upd_same, upd_same]
      have : (gs₁.size == 0) = false := by rw [beq_eq_false_iff_ne]; omega
      show Sits P (gs₁.size == 0) sn.keep sn.still sn.B sn.base nc child
      rw [this]; exact hchild
    · have hxl : x < gs₁.size := by
        have := (Array.getElem?_eq_some_iff.1 hy).1
        simp at this; omega
      rw [Array.getElem?_push, if_neg (by simp; omega), Array.getElem?_setIfInBounds_ne (fun z => hx z.symm)] at hy
      rw [upd_ne q₁ nc ex, hup x ex]
      have hi := C₁.idle x y hx hy
      cases e : Inb x with
      | none => rw [e] at hi; exact ⟨hi.1, by rw [hD2]; exact hi.2⟩
      | some s => rw [e] at hi; exact hi
  · by_cases ei : i = gs₁.size
    · subst ei
      rw [upd_same] at e
      obtain rfl := Option.some.inj e
      exact hsn.chan
    · rw [hup i ei] at e
      exact C₁.chans i s e
  · by_cases ei : i = gs₁.size
    · subst ei
      rw [upd_same] at e
      obtain rfl := Option.some.inj e
      exact hsn.wf
    · rw [hup i ei] at e
      exact C₁.wf i s e
  · by_cases e1 : i = gs₁.size <;> by_cases e2 : i' = gs₁.size
    · rw [e1, e2]
    · subst e1
      rw [upd_same] at e₁; rw [hup i' e2] at e₂
      obtain rfl := Option.some.inj e₁
      exact absurd ec.symm (hsn.apart i' s₂ e₂)
    · subst e2
      rw [upd_same] at e₂; rw [hup i e1] at e₁
      obtain rfl := Option.some.inj e₂
      exact absurd ec (hsn.apart i s₁ e₁)
    · rw [hup i e1] at e₁; rw [hup i' e2] at e₂
      exact C₁.inj i i' s₁ s₂ e₁ e₂ ec
  · simp only [Array.size_push, Array.size_setIfInBounds] at hx
    exact ⟨by rw [hD2]; exact (C₁.above x (by omega)).1, by rw [hup x (by omega)]; exact (C₁.above x (by omega)).2⟩
  · rcases hg with ⟨rfl, _⟩ | ⟨s, e⟩
    · exact .inl (.inl ⟨rfl, rfl⟩)
    · by_cases eg : g = gs₁.size
      · exact .inr eg
      · rw [hup g eg] at e; exact .inl (.inr ⟨s, e⟩)
  · by_cases ei : i = gs₁.size
    · subst ei
      rw [upd_same] at e
      obtain rfl := Option.some.inj e
      exact hsn.wf.at' w d' hsn.keep
    · rw [hup i ei] at e
      exact C₁.keep i s e

/-- Goroutine 0 beside goroutines that only leave. -/
theorem begins {B : Nat} (hL : Leavers P T gs q) (hP : Past (fun _ => False) B T) : Core P (fun _ => none) 0 0 T gs w q :=
  ⟨fun i g hi hg => ⟨Nat.pos_of_ne_zero hi, hL.old i g (Nat.pos_of_ne_zero hi) hg⟩, fun _ _ e => (by cases e), fun _ _ e => (by cases e), fun _ _ _ _ e => (by cases e), fun j hj => ⟨hL.above j hj, rfl⟩, rfl,
    ⟨hP.clean, fun i a ha hm => (hP.known i a ha hm).imp id fun x => x.1.elim, fun _ _ _ _ _ hg => (by obtain ⟨s, e, _⟩ := hg; cases e), fun g hg => hg.elim (fun e => e.1 ▸ hP.hears) (fun x => (by obtain ⟨s, e⟩ := x; cases e))⟩, hP.hears, fun _ _ e => (by cases e)⟩

/-- Goroutine 0 holds and nobody has a seat: all others only leave, and all is known to it. -/
theorem over (C : Core P Inb 0 0 T gs w q) (hI : ∀ i, Inb i = none) : Leavers P T gs q ∧ ∃ B, Past (fun _ => False) B T := by
  obtain ⟨B, hB⟩ := low_some T
  refine ⟨⟨fun i g hi hg => by have := C.idle i g (by omega) hg; rw [hI i] at this; exact this.2, fun j hj => (C.above j hj).1⟩, B, C.past.over (.inl ⟨rfl, rfl⟩) (fun g l ⟨s, e, _⟩ => by rw [hI g] at e; cases e) hB⟩
end
end Go.Proofs.YtmnahfonnljobaaGreatDoor.SX.Tok
