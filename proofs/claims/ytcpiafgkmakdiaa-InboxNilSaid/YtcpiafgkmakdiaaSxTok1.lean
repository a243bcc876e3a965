/-
  One goroutine holds, the others sit or leave: the trace's side, where each has still places of its own, that may turn whenever it holds.
  After the thought of the library's token: there the still places are one set for all and for good; here each seat brings its own.
-/
import Derived.Conc.Token
set_option linter.unusedSectionVars false
set_option linter.unusedVariables false
set_option linter.unusedSimpArgs false
namespace Go.Proofs.Ytcpiafgkmakdiaa.SX.Tok
open Go.Conc

/-- What is held of the trace while goroutine h holds: no race · it knows every touch, but for reads by others of their own still places · every write of a still place is known to whoever holds it for still · all members hear. -/
structure Held (St : Nat → Loc → Prop) (Mem : Nat → Prop) (h : Nat) (t : Trace) : Prop where
  clean : ∀ said, ¬ Race said t
  known : ∀ i a, touchAt t i = some a → a.loc.isMemory = true → Knows t h i ∨ (a.write = false ∧ ∃ g, t.g? i = some g ∧ g ≠ h ∧ St g a.loc)
  wrote : ∀ i a, touchAt t i = some a → a.write = true → ∀ g, St g a.loc → Knows t g i
  hears : ∀ g, Mem g → Deaf t g = 0

section
variable {St : Nat → Loc → Prop} {Mem : Nat → Prop} {h j g : Nat} {t u : Trace}

theorem Held.old (H : Held St Mem h t) {i : Nat} {a : Touch} {x : MemOp} (hx : t[i]? = some x) (hxa : x.act.touch? = some a) (hm : a.loc.isMemory = true) :
    Knows (t ++ u) h i ∨ (a.write = false ∧ ∃ g, (t ++ u).g? i = some g ∧ g ≠ h ∧ St g a.loc) :=
  (H.known i a (by rw [touchAt_of hx]; exact hxa) hm).imp (Knows.app u) fun ⟨p, g, hg, hn, hs⟩ => ⟨p, g, by rw [g?_old (lt_size_of_getElem? hx)]; exact hg, hn, hs⟩

theorem Held.hears_app (H : Held St Mem h t) (hu : ∀ op ∈ u, op.g = g) (hd : Mem g → Deaf (t ++ u) g = Deaf t g) : ∀ g', Mem g' → Deaf (t ++ u) g' = 0 := fun g' hg' => by
  by_cases e : g' = g
  · subst e; exact (hd hg').trans (H.hears g' hg')
  · exact (Deaf_other t (fun x => e x.symm) u hu).trans (H.hears g' hg')

/-- Operations of anybody that touch nothing. -/
theorem Held.mute (H : Held St Mem h t) (hu : ∀ op ∈ u, op.g = g) (hn : ∀ op ∈ u, op.act.touch? = none) (hd : Mem g → Deaf (t ++ u) g = Deaf t g) : Held St Mem h (t ++ u) := by
  refine ⟨fun said => noRace_appendMute (H.clean said) hn, fun i a ha hm => ?_, fun i a ha hw g' hg' => ?_, H.hears_app hu hd⟩
  · obtain ⟨x, hx, hxa⟩ := touch_of ha
    rcases getElem?_append_cases hx with ⟨_, hx'⟩ | ⟨_, hxu⟩
    · exact H.old hx' hxa hm
    · rw [hn x hxu] at hxa; cases hxa
  · obtain ⟨x, hx, hxa⟩ := touch_of ha
    rcases getElem?_append_cases hx with ⟨_, hx'⟩ | ⟨_, hxu⟩
    · exact (H.wrote i a (by rw [touchAt_of hx']; exact hxa) hw g' hg').app u
    · rw [hn x hxu] at hxa; cases hxa

/-- Whoever does not hold reads its own still places. -/
theorem Held.read (H : Held St Mem h t) (hg : g ≠ h) (hu : ∀ op ∈ u, op.g = g) (hr : ∀ op ∈ u, ∀ b, op.act.touch? = some b → b.write = false ∧ St g b.loc) (hd : Deaf (t ++ u) g = Deaf t g) : Held St Mem h (t ++ u) := by
  refine ⟨fun said => noRace_append (H.clean said) hu fun i a ha op hop b hb hc => ?_, fun i a ha hm => ?_, fun i a ha hw g' hg' => ?_, H.hears_app hu fun _ => hd⟩
  · obtain ⟨hb0, hbS⟩ := hr op hop b hb
    rcases hc.2.2.1 with x | x
    · exact H.wrote i a ha x g (hc.1 ▸ hbS)
    · rw [hb0] at x; cases x
  · obtain ⟨x, hx, hxa⟩ := touch_of ha
    rcases getElem?_append_cases hx with ⟨_, hx'⟩ | ⟨_, hxu⟩
    · exact H.old hx' hxa hm
    · exact .inr ⟨(hr x hxu a hxa).1, g, by rw [g?_of hx, hu x hxu], hg, (hr x hxu a hxa).2⟩
  · obtain ⟨x, hx, hxa⟩ := touch_of ha
    rcases getElem?_append_cases hx with ⟨_, hx'⟩ | ⟨_, hxu⟩
    · exact (H.wrote i a (by rw [touchAt_of hx']; exact hxa) hw g' hg').app u
    · rw [(hr x hxu a hxa).1] at hw; cases hw

/-- The holder's own operations: whatever, but no write of a place that is still for another. -/
theorem Held.own (H : Held St Mem h t) (hu : ∀ op ∈ u, op.g = h) (hs : ∀ op ∈ u, ∀ b, op.act.touch? = some b → ∀ g, St g b.loc → b.write = false) (hd : Mem h → Deaf (t ++ u) h = Deaf t h) : Held St Mem h (t ++ u) := by
  refine ⟨fun said => noRace_append (H.clean said) hu fun i a ha op hop b hb hc => ?_, fun i a ha hm => ?_, fun i a ha hw g hg => ?_, H.hears_app hu hd⟩
  · rcases H.known i a ha hc.2.1 with hk | ⟨hw, g, _, _, hS⟩
    · exact hk
    · have hb0 := hs op hop b hb g (hc.1 ▸ hS)
      rcases hc.2.2.1 with x | x
      · rw [hw] at x; cases x
      · rw [hb0] at x; cases x
  · obtain ⟨x, hx, hxa⟩ := touch_of ha
    rcases getElem?_append_cases hx with ⟨_, hx'⟩ | ⟨_, hxu⟩
    · exact H.old hx' hxa hm
    · have := knows_own hx
      rw [hu x hxu] at this
      exact .inl this
  · obtain ⟨x, hx, hxa⟩ := touch_of ha
    rcases getElem?_append_cases hx with ⟨_, hx'⟩ | ⟨_, hxu⟩
    · exact (H.wrote i a (by rw [touchAt_of hx']; exact hxa) hw g hg).app u
    · rw [hs x hxu a hxa g hg] at hw; cases hw

/-- The holder's own operations that touch nothing, whatever becomes of its hearing. -/
theorem Held.turn {Mem' : Nat → Prop} (H : Held St Mem h t) (hu : ∀ op ∈ u, op.g = h) (hn : ∀ op ∈ u, op.act.touch? = none) (h1 : ∀ g, Mem' g → g ≠ h → Mem g) (h2 : Mem' h → Deaf (t ++ u) h = 0) : Held St Mem' h (t ++ u) := by
  refine ⟨fun said => noRace_appendMute (H.clean said) hn, fun i a ha hm => ?_, fun i a ha hw g' hg' => ?_, fun g hg => ?_⟩
  · obtain ⟨x, hx, hxa⟩ := touch_of ha
    rcases getElem?_append_cases hx with ⟨_, hx'⟩ | ⟨_, hxu⟩
    · exact H.old hx' hxa hm
    · rw [hn x hxu] at hxa; cases hxa
  · obtain ⟨x, hx, hxa⟩ := touch_of ha
    rcases getElem?_append_cases hx with ⟨_, hx'⟩ | ⟨_, hxu⟩
    · exact (H.wrote i a (by rw [touchAt_of hx']; exact hxa) hw g' hg').app u
    · rw [hn x hxu] at hxa; cases hxa
  · by_cases e : g = h
    · subst e; exact h2 hg
    · exact (Deaf_other t (fun x => e x.symm) u hu).trans (H.hears g (h1 g hg e))

/-- A send that is met: whoever takes holds; the giver may call places still from now on; the taker's are free again. -/
theorem Held.give (H : Held St Mem h t) (hh : Mem h) (hj : Mem j) (hjh : j ≠ h) {St' : Nat → Loc → Prop} (h1 : ∀ g l, g ≠ h → g ≠ j → St' g l → St g l) (h1' : ∀ g l, g ≠ h → g ≠ j → St g l → St' g l) (h2 : ∀ l, ¬ St' j l) (h3 : ∀ l, St' h l → l.isMemory = true)
    (fh : FuncId) (ph : String) (fj : FuncId) (pj : String) {c : Nat} (k cap : Nat) : Held St' Mem j (t ++ met h j fh ph fj pj c k cap) := by
  have hn := met_mute h j fh ph fj pj c k cap
  have hq := met_quiet h j fh ph fj pj c k cap
  have e0 : (t ++ met h j fh ph fj pj c k cap)[t.size]? = some { g := h, fn := fh, pos := ph, act := .send c k } := by simp [met]
  have e3 : (t ++ met h j fh ph fj pj c k cap)[t.size + 3]? = some { g := j, fn := fj, pos := pj, act := .recvDone c k } := by simp [met]
  have edge : HappensBefore (t ++ met h j fh ph fj pj c k cap) t.size (t.size + 3) :=
    Relation.TransGen.single (.inr ⟨.handOver (act?_of e0) (act?_of e3), ⟨h, g?_of e0, by rw [deaf_old (Nat.le_refl _)]; exact H.hears h hh⟩, ⟨j, g?_of e3, by rw [deaf_quiet (hq j) 3 (by simp [met])]; exact H.hears j hj⟩⟩)
  refine ⟨fun said => noRace_appendMute (H.clean said) hn, fun i a ha hm => ?_, fun i a ha hw g hg => ?_, fun g hg => (Deaf_quiet (hq g)).trans (H.hears g hg)⟩
  · obtain ⟨x, hx, hxa⟩ := touch_of ha
    rcases getElem?_append_cases hx with ⟨hi, hx'⟩ | ⟨_, hxu⟩
    · rcases H.known i a (by rw [touchAt_of hx']; exact hxa) hm with hk | ⟨p, g, hg, hgh, hS⟩
      · exact .inl ⟨t.size + 3, _, e3, rfl, .inr ((hk.hb_new (Nat.le_refl _) e0 rfl).trans edge)⟩
      · by_cases e : g = j
        · subst e
          have := knows_own hx
          rw [show x.g = g from by have := g?_of hx'; rw [hg] at this; exact (Option.some.inj this).symm] at this
          exact .inl this
        · exact .inr ⟨p, g, by rw [g?_old hi]; exact hg, e, h1' g _ hgh e hS⟩
    · rw [hn x hxu] at hxa; cases hxa
  · obtain ⟨x, hx, hxa⟩ := touch_of ha
    rcases getElem?_append_cases hx with ⟨_, hx'⟩ | ⟨_, hxu⟩
    · have ht : touchAt t i = some a := by rw [touchAt_of hx']; exact hxa
      by_cases ej : g = j
      · exact absurd (ej ▸ hg) (h2 _)
      by_cases eh : g = h
      · subst eh
        rcases H.known i a ht (h3 _ hg) with hk | ⟨p, _⟩
        · exact hk.app _
        · rw [p] at hw; cases hw
      · exact (H.wrote i a ht hw g (h1 g _ eh ej hg)).app _
    · rw [hn x hxu] at hxa; cases hxa

/-- A go statement of the holder's: the child may call places still from its birth on. -/
theorem Held.hire (H : Held St Mem h t) (hh : Mem h) {c : Nat} (hc0 : Deaf t c = 0) (hch : c ≠ h) {St' : Nat → Loc → Prop} (h1 : ∀ g l, g ≠ c → (St' g l ↔ St g l)) (hc : ∀ l, ¬ St c l) (h3 : ∀ l, St' c l → l.isMemory = true) (fh : FuncId) (ph : String) (fc : FuncId) :
    Held St' (fun g => Mem g ∨ g = c) h (t ++ #[{ g := h, fn := fh, pos := ph, act := .go c }, { g := c, fn := fc, pos := ph, act := .start }]) := by
  generalize hu : (#[{ g := h, fn := fh, pos := ph, act := .go c }, { g := c, fn := fc, pos := ph, act := .start }] : Trace) = u
  have hn : ∀ op ∈ u, op.act.touch? = none := by
    intro op hop
    subst hu
    simp only [List.mem_toArray, List.mem_cons, List.not_mem_nil, or_false] at hop
    rcases hop with rfl | rfl <;> rfl
  have hq : ∀ g, ∀ op ∈ u, ∀ d, deafStep g d op = d := by
    intro g op hop d
    subst hu
    simp only [List.mem_toArray, List.mem_cons, List.not_mem_nil, or_false] at hop
    rcases hop with rfl | rfl <;> rfl
  have e0 : (t ++ u)[t.size]? = some { g := h, fn := fh, pos := ph, act := .go c } := by subst hu; simp
  have e1 : (t ++ u)[t.size + 1]? = some { g := c, fn := fc, pos := ph, act := .start } := by subst hu; simp
  have edge : HappensBefore (t ++ u) t.size (t.size + 1) :=
    Relation.TransGen.single (.inr ⟨.spawn (act?_of e0) (act?_of e1) (g?_of e1), ⟨h, g?_of e0, by rw [deaf_old (Nat.le_refl _)]; exact H.hears h hh⟩, ⟨c, g?_of e1, by rw [deaf_quiet (hq c) 1 (by subst hu; simp)]; exact hc0⟩⟩)
  refine ⟨fun said => noRace_appendMute (H.clean said) hn, fun i a ha hm => ?_, fun i a ha hw g hg => ?_, fun g hg => (Deaf_quiet (hq g)).trans (hg.elim (H.hears g) fun e => e ▸ hc0)⟩
  · obtain ⟨x, hx, hxa⟩ := touch_of ha
    rcases getElem?_append_cases hx with ⟨_, hx'⟩ | ⟨_, hxu⟩
    · refine (H.old hx' hxa hm).imp id fun ⟨p, g, hg, hgh, hS⟩ => ⟨p, g, hg, hgh, (h1 g _ fun e => hc _ (e ▸ hS)).2 hS⟩
    · rw [hn x hxu] at hxa; cases hxa
  · obtain ⟨x, hx, hxa⟩ := touch_of ha
    rcases getElem?_append_cases hx with ⟨_, hx'⟩ | ⟨_, hxu⟩
    · have ht : touchAt t i = some a := by rw [touchAt_of hx']; exact hxa
      by_cases ec : g = c
      · subst ec
        rcases H.known i a ht (h3 _ hg) with hk | ⟨p, _⟩
        · exact ⟨t.size + 1, _, e1, rfl, .inr ((hk.hb_new (Nat.le_refl _) e0 rfl).trans edge)⟩
        · rw [p] at hw; cases hw
      · exact (H.wrote i a ht hw g ((h1 g _ ec).1 hg)).app _
    · rw [hn x hxu] at hxa; cases hxa

/-- Goroutine 0 alone: it holds, and nobody has a seat. -/
theorem Held.begin {B : Nat} (H : Past (fun _ => False) B t) : Held (fun _ _ => False) (fun g => g = 0) 0 t :=
  ⟨H.clean, fun i a ha hm => (H.known i a ha hm).imp id fun x => x.1.elim, fun _ _ _ _ _ hg => hg.elim, fun _ hg => hg ▸ H.hears⟩

/-- Goroutine 0 holds and nobody has a seat: all is known to it. -/
theorem Held.over (H : Held St Mem 0 t) (h0 : Mem 0) (hS : ∀ g l, ¬ St g l) {B : Nat} (hB : ∀ op ∈ t, op.act.low B) : Past (fun _ => False) B t := by
  have hk : ∀ i a, touchAt t i = some a → a.loc.isMemory = true → Knows t 0 i := fun i a ha hm => (H.known i a ha hm).elim id fun ⟨_, g, _, _, hs⟩ => absurd hs (hS g _)
  refine ⟨H.clean, fun i a ha hm => .inl (hk i a ha hm), fun i g hg hne ⟨x, hx, hm, _⟩ => ?_, H.hears 0 h0, hB⟩
  obtain ⟨q, z, hq, hz, hb⟩ := hk i x hx hm
  rcases hb with rfl | hb
  · rw [g?_of hq, hz] at hg
    exact absurd (Option.some.inj hg).symm hne
  · exact ⟨q, by rw [g?_of hq, hz], hb⟩

/-- Whatever a trace names lies below some bound. -/
theorem low_some (t : Trace) : ∃ B, ∀ op ∈ t, op.act.low B := by
  have one : ∀ a : MemAct, ∃ B, a.low B := by
    have loc : ∀ l : Loc, ∃ B, l.low B := fun l => by
      cases l with
      | cell a => exact ⟨a.block + 1, Nat.lt_succ_self _⟩
      | obj r => exact ⟨r + 1, Nat.lt_succ_self _⟩
      | _ => exact ⟨0, trivial⟩
    intro a
    cases a with
    | access e => exact loc e.loc
    | mark m => cases m <;> first | exact ⟨0, trivial⟩ | exact ⟨_, Nat.lt_succ_self _⟩
    | go _ | start => exact ⟨0, trivial⟩
    | send _ _ | sendDone _ _ | recv _ _ _ | recvDone _ _ | close _ | recvClosed _ => exact ⟨_, Nat.lt_succ_self _⟩
  have : ∀ l : List MemOp, ∃ B, ∀ op ∈ l, op.act.low B := by
    intro l
    induction l with
    | nil => exact ⟨0, fun _ h => by cases h⟩
    | cons x l ih =>
      obtain ⟨B, hB⟩ := ih
      obtain ⟨C, hC⟩ := one x.act
      refine ⟨B + C, fun op hop => ?_⟩
      rcases List.mem_cons.1 hop with rfl | hop
      · exact MemAct.low_mono (Nat.le_add_left _ _) hC
      · exact MemAct.low_mono (Nat.le_add_right _ _) (hB op hop)
  obtain ⟨B, hB⟩ := this t.toList
  exact ⟨B, fun op hop => hB op (by simpa using hop)⟩
end
end Go.Proofs.Ytcpiafgkmakdiaa.SX.Tok
