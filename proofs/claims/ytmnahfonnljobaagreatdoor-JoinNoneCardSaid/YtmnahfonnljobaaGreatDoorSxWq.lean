/-
  A judgement on the model's pieces of code: 'wq': no halt but a panic, every access listed is let, whatever is drawn.
-/
import Derived.Test.YtmnahfonnljobaaGreatDoorSxEv
import Derived.Conc.Events
namespace Go.Proofs.YtmnahfonnljobaaGreatDoor.SX

/-- What is asked of a piece of code in a world: Q of what it yields, E of the value with which it panics, 'Ev' of each access. -/
def wq {α : Type} (P : Program) (Ev : Event → Prop) (E : Value → World → Prop) : Sem α → (α → World → Prop) → World → Prop
  | .pure a, Q, w => Q a w
  | .load m a k, Q, w => ∃ v, w.cell? a = some v ∧ Ev ⟨.cell a, false, m == .atomic⟩ ∧ wq P Ev E (k v) Q w
  | .store m a v k, Q, w => v.oneCell' = true ∧ (∃ u, w.cell? a = some u) ∧ w.frozen? a = false ∧ Ev ⟨.cell a, true, m == .atomic⟩ ∧ wq P Ev E k Q (w.setCell a v)
  | .new o k, Q, w => wq P Ev E (k w.heap.size) Q { w with heap := w.heap.push o }
  | .shape r k, Q, w => wq P Ev E (k (w.shape? r)) Q w
  | .freeze _ _ _, _, _ => False
  | .frozen a k, Q, w => wq P Ev E (k (w.frozen? a)) Q w
  | .getObj r k, Q, w => ∃ o, w.heap[r]? = some o ∧ (∀ c e f, o ≠ .cells c e f) ∧ Ev ⟨.obj r, false, o.isChan⟩ ∧ wq P Ev E (k o) Q w
  | .setObj r o k, Q, w => (∃ o', w.heap[r]? = some o' ∧ ∀ c e f, o' ≠ .cells c e f) ∧ Ev ⟨.obj r, true, o.isChan⟩ ∧ wq P Ev E k Q { w with heap := w.heap.setIfInBounds r o }
  | .choose q k, Q, w => if q.forced then wq P Ev E (k 0) Q w else ∀ n, wq P Ev E (k (q.cut n)) Q { w with drawn := w.drawn + 1 }
  | .sys _ _, _, _ => False
  | .program k, Q, w => wq P Ev E (k P) Q w
  | .mark m k, Q, w => Ev ⟨.mark m, false, true⟩ ∧ wq P Ev E k Q w
  | .halt (.panic v), _, w => E v w
  | .halt _, _, _ => False

/-- What it says of the run. -/
def _root_.Go.Result.goes {α : Type} (Q : α → World → Prop) (E : Value → World → Prop) : Result α → Prop
  | .ok a w => Q a w
  | .halt (.panic v) w => E v w
  | .halt _ _ => False

section
variable {α β : Type} {P : Program} {Ev : Event → Prop} {E : Value → World → Prop}

theorem wq_sound (s : Sem α) : ∀ {Q : α → World → Prop} {w : World} (es : Array Event), wq P Ev E s Q w → (∀ e ∈ es, Ev e) → (s.runT P w es).1.goes Q E ∧ ∀ e ∈ (s.runT P w es).2, Ev e := by
  have push : ∀ (es : Array Event) (x : Event), (∀ e ∈ es, Ev e) → Ev x → ∀ e ∈ es.push x, Ev e := fun es x h hx e he => by
    rcases Array.mem_push.1 he with h' | rfl
    · exact h _ h'
    · exact hx
  induction s with
  | pure a => intro Q w es h he; exact ⟨h, he⟩
  | load m a k ih =>
    intro Q w es h he
    obtain ⟨v, hc, hv, hk⟩ := h
    simp only [Sem.runT, hc]
    exact ih v _ hk (push _ _ he hv)
  | store m a v k ih =>
    intro Q w es h he
    obtain ⟨h1, ⟨u, hu⟩, hf, hv, hk⟩ := h
    cases v <;> first
      | (simp [Value.oneCell'] at h1; done)
      | (simp only [Sem.runT, hu, hf, Bool.false_eq_true, if_false]; exact ih _ hk (push _ _ he hv))
  | new o k ih => intro Q w es h he; simp only [Sem.runT]; exact ih _ _ h he
  | shape r k ih => intro Q w es h he; simp only [Sem.runT]; exact ih _ _ h he
  | freeze a n k ih => intro Q w es h he; exact h.elim
  | frozen a k ih => intro Q w es h he; simp only [Sem.runT]; exact ih _ _ h he
  | getObj r k ih =>
    intro Q w es h he
    obtain ⟨o, ho, hn, hv, hk⟩ := h
    simp only [Sem.runT, ho]
    cases o <;> first
      | exact absurd rfl (hn _ _ _)
      | exact ih _ _ hk (push _ _ he hv)
  | setObj r o k ih =>
    intro Q w es h he
    obtain ⟨⟨o', ho, hn⟩, hv, hk⟩ := h
    simp only [Sem.runT, ho]
    cases o' <;> first
      | exact absurd rfl (hn _ _ _)
      | exact ih _ hk (push _ _ he hv)
  | choose q k ih =>
    intro Q w es h he
    simp only [wq] at h
    simp only [Sem.runT]
    split at h
    · rename_i hq; rw [if_pos hq]; exact ih _ _ h he
    · rename_i hq; rw [if_neg hq]; exact ih _ _ (h _) he
  | sys c k ih => intro Q w es h he; exact h.elim
  | program k ih => intro Q w es h he; simp only [Sem.runT]; exact ih _ _ h he
  | mark m k ih => intro Q w es h he; simp only [Sem.runT]; exact ih _ h.2 (push _ _ he h.1)
  | halt x =>
    intro Q w es h he
    cases x <;> first
      | exact ⟨h, he⟩
      | exact (show False from h).elim

theorem wq_run {s : Sem α} {Q : α → World → Prop} {w : World} (h : wq P Ev E s Q w) : (s.run P w).goes Q E ∧ ∀ e ∈ s.events P w #[], Ev e := by
  have := wq_sound s #[] h (by simp)
  rw [Sem.runT_fst] at this
  exact this

theorem wq_bind' (x : Sem α) (f : α → Sem β) {Q : β → World → Prop} : ∀ {w : World}, wq P Ev E (x.bind f) Q w ↔ wq P Ev E x (fun a w => wq P Ev E (f a) Q w) w := by
  induction x with
  | pure a => intro w; exact Iff.rfl
  | load m a k ih => intro w; simp only [Sem.bind, wq, ih]
  | store m a v k ih => intro w; simp only [Sem.bind, wq, ih]
  | new o k ih => intro w; simp only [Sem.bind, wq, ih]
  | shape r k ih => intro w; simp only [Sem.bind, wq, ih]
  | freeze a n k ih => intro w; simp only [Sem.bind, wq]
  | frozen a k ih => intro w; simp only [Sem.bind, wq, ih]
  | getObj r k ih => intro w; simp only [Sem.bind, wq, ih]
  | setObj r o k ih => intro w; simp only [Sem.bind, wq, ih]
  | choose q k ih => intro w; simp only [Sem.bind, wq, ih]
  | sys c k ih => intro w; simp only [Sem.bind, wq]
  | program k ih => intro w; simp only [Sem.bind, wq, ih]
  | mark m k ih => intro w; simp only [Sem.bind, wq, ih]
  | halt h => intro w; cases h <;> simp only [Sem.bind, wq]

@[simp] theorem wq_bind (x : Sem α) (f : α → Sem β) {Q : β → World → Prop} {w : World} : wq P Ev E (x >>= f) Q w ↔ wq P Ev E x (fun a w => wq P Ev E (f a) Q w) w := wq_bind' x f
@[simp] theorem wq_map (x : Sem α) (f : α → β) {Q : β → World → Prop} {w : World} : wq P Ev E (f <$> x) Q w ↔ wq P Ev E x (fun a w => Q (f a) w) w := wq_bind' x _
@[simp] theorem wq_pure (a : α) {Q : α → World → Prop} {w : World} : wq P Ev E (Pure.pure a) Q w ↔ Q a w := Iff.rfl
@[simp] theorem wq_pure' (a : α) {Q : α → World → Prop} {w : World} : wq P Ev E (Sem.pure a) Q w ↔ Q a w := Iff.rfl
@[simp] theorem wq_program {Q : Program → World → Prop} {w : World} : wq P Ev E program Q w ↔ Q P w := Iff.rfl
@[simp] theorem wq_newObj (o : Obj) {Q : Nat → World → Prop} {w : World} : wq P Ev E (newObj o) Q w ↔ Q w.heap.size { w with heap := w.heap.push o } := Iff.rfl
@[simp] theorem wq_shape (r : Nat) {Q : Option (TypeId × Nat) → World → Prop} {w : World} : wq P Ev E (shape r) Q w ↔ Q (w.shape? r) w := Iff.rfl
@[simp] theorem wq_frozen (a : Addr) {Q : Bool → World → Prop} {w : World} : wq P Ev E (frozen a) Q w ↔ Q (w.frozen? a) w := Iff.rfl
@[simp] theorem wq_mark (m : Mark) {Q : Unit → World → Prop} {w : World} : wq P Ev E (mark m) Q w ↔ Ev ⟨.mark m, false, true⟩ ∧ Q () w := Iff.rfl
@[simp] theorem wq_goPanic (v : Value) {Q : α → World → Prop} {w : World} : wq P Ev E (goPanic v) Q w ↔ E v w := Iff.rfl
theorem wq_load (a : Addr) (m : Mode) {Q : Value → World → Prop} {w : World} : wq P Ev E (load a m) Q w ↔ ∃ v, w.cell? a = some v ∧ Ev ⟨.cell a, false, m == .atomic⟩ ∧ Q v w := Iff.rfl
theorem wq_store (a : Addr) (v : Value) (m : Mode) {Q : Unit → World → Prop} {w : World} :
    wq P Ev E (store a v m) Q w ↔ v.oneCell' = true ∧ (∃ u, w.cell? a = some u) ∧ w.frozen? a = false ∧ Ev ⟨.cell a, true, m == .atomic⟩ ∧ Q () (w.setCell a v) := Iff.rfl
theorem wq_choose (q : Question) {Q : Nat → World → Prop} {w : World} : wq P Ev E (choose q) Q w ↔ if q.forced then Q 0 w else ∀ n, Q (q.cut n) { w with drawn := w.drawn + 1 } := Iff.rfl
@[simp] theorem wq_ite (c : Prop) [Decidable c] (x y : Sem α) {Q : α → World → Prop} {w : World} : wq P Ev E (if c then x else y) Q w ↔ if c then wq P Ev E x Q w else wq P Ev E y Q w := by split <;> exact Iff.rfl

theorem wq_mono {s : Sem α} {Q Q' : α → World → Prop} {E' : Value → World → Prop} (hE : ∀ v w, E v w → E' v w) (hQ : ∀ a w, Q a w → Q' a w) : ∀ {w : World}, wq P Ev E s Q w → wq P Ev E' s Q' w := by
  induction s with
  | pure a => intro w h; exact hQ _ _ h
  | load m a k ih => intro w h; obtain ⟨v, h1, h2, h3⟩ := h; exact ⟨v, h1, h2, ih _ h3⟩
  | store m a v k ih => intro w h; obtain ⟨h1, h2, h3, h4, h5⟩ := h; exact ⟨h1, h2, h3, h4, ih h5⟩
  | new o k ih => intro w h; exact ih _ h
  | shape r k ih => intro w h; exact ih _ h
  | freeze a n k ih => intro w h; exact h
  | frozen a k ih => intro w h; exact ih _ h
  | getObj r k ih => intro w h; obtain ⟨o, h1, h2, h3, h4⟩ := h; exact ⟨o, h1, h2, h3, ih _ h4⟩
  | setObj r o k ih => intro w h; obtain ⟨h1, h2, h3⟩ := h; exact ⟨h1, h2, ih h3⟩
  | choose q k ih =>
    intro w h
    simp only [wq] at h ⊢
    split
    · rename_i hq; rw [if_pos hq] at h; exact ih _ h
    · rename_i hq; rw [if_neg hq] at h; exact fun n => ih _ (h n)
  | sys c k ih => intro w h; exact h
  | program k ih => intro w h; exact ih _ h
  | mark m k ih => intro w h; exact ⟨h.1, ih h.2⟩
  | halt h => intro w hh; cases h <;> first | exact hE _ _ hh | exact hh

/-! ### What hangs on the program's tables alone -/
theorem wq_typeInfo {t : TypeId} {i : TypeInfo} (h : P.info? t = some i) {Q : TypeInfo → World → Prop} {w : World} : wq P Ev E (typeInfo t) Q w ↔ Q i w := by
  simp [typeInfo, h]
theorem wq_underlying {t : TypeId} {d : TypeDesc} (h : P.underlying t = some d) {Q : TypeDesc → World → Prop} {w : World} : wq P Ev E (underlying t) Q w ↔ Q d w := by
  simp [underlying, h]

/-- A piece of code without memory. -/
theorem wq_pureRun {s : Sem α} : ∀ {a : α}, pureRun P s = some a → ∀ {Q : α → World → Prop} {w : World}, Q a w → wq P Ev E s Q w := by
  induction s with
  | pure b => intro a h Q w hq; simp [pureRun] at h; subst h; exact hq
  | program k ih => intro a h Q w hq; exact ih P h hq
  | _ => intro a h; simp [pureRun] at h
end

/-- The program's sizes. -/
theorem sizeOf?_ok {P : Program} {t : TypeId} {n : Nat} (h : sizeOf? P t = .ok n) : ∃ i, P.info? t = some i ∧ i.size = n := by
  unfold sizeOf? at h
  split at h
  · rename_i i hi; exact ⟨i, hi, by simpa using h⟩
  · cases h
theorem under?_ok {P : Program} {t : TypeId} {d : TypeDesc} (h : under? P t = .ok d) : P.underlying t = some d := by
  unfold under? at h
  split at h
  · rename_i i hi; rw [hi]; simpa using h
  · cases h

theorem wq_sizeOf {P : Program} {Ev : Event → Prop} {E : Value → World → Prop} {t : TypeId} {n : Nat} (h : sizeOf? P t = .ok n) {Q : Nat → World → Prop} {w : World} : wq P Ev E (sizeOf t) Q w ↔ Q n w := by
  obtain ⟨i, hi, rfl⟩ := sizeOf?_ok h
  simp [sizeOf, wq_typeInfo hi]

theorem wq_isAgg {P : Program} {Ev : Event → Prop} {E : Value → World → Prop} {t : TypeId} {b : Bool} (h : isAgg? P t = .ok b) {Q : Bool → World → Prop} {w : World} : wq P Ev E (isAgg t) Q w ↔ Q b w := by
  unfold isAgg? at h
  split at h
  · rename_i hu; cases h; simp [isAgg, wq_underlying hu]
  · rename_i hu; cases h; simp [isAgg, wq_underlying hu]
  · rename_i d h1 h2 hu; cases h
    simp only [isAgg, wq_bind, wq_underlying hu]
    cases d <;> first
      | exact absurd hu (h1 _)
      | exact absurd hu (h2 _ _)
      | exact Iff.rfl
  · cases h

end Go.Proofs.YtmnahfonnljobaaGreatDoor.SX
