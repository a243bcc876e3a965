/-
  The seat's context for pieces of runs. Conditions: none.
-/
import Derived.Test.YtcpiafgkmakdiaaDoorSxOFacts
import Derived.Test.YtcpiafgkmakdiaaDoorSxParts
import Derived.IntWalk
set_option maxRecDepth 100000
set_option linter.unusedSimpArgs false
set_option linter.unusedVariables false
namespace Go.Proofs.YtcpiafgkmakdiaaDoor
open Go.Proofs.YtcpiafgkmakdiaaDoor.SX Go.Conc

noncomputable def OO (bs : List (BE × Bool)) (is : List (IE × IE)) (mem : List (AA × AV)) : Orc := { bs := bs, is := is, mem := mem, fns := fns, ext := ext }
noncomputable abbrev XX (bs : List (BE × Bool)) (is : List (IE × IE)) (mem : List (AA × AV)) : Ext := ext? Tryd.prog (OO bs is mem) tabC
theorem tabC_quiet : ∀ p ∈ tabC, p.2 ≠ .quiet := by
  intro p hp
  simp only [tabC, List.mem_cons, List.not_mem_nil, or_false] at hp
  rcases hp with rfl | rfl | rfl | rfl | rfl | rfl | rfl | rfl <;> intro e <;> cases e
def v (n : Nat) : IE := .var n
def slc (b : Nat) (l c : IE) : AV := .slice (some ⟨.dyn b, .lit 0⟩) l c
def ptr0 (b : Nat) : AV := .ptr (some ⟨.dyn b, .lit 0⟩)
def i64 (e : IE) : AV := .int .i64 e
def TB : AV := .bool (.lit true)

/-- What a caller brings. -/
structure Outer (K : Ctx) : Prop where
  prog : K.P = Tryd.prog
  good : K.Good
  rd : ∀ a s, K.Ev ⟨.cell a, false, s⟩
/-- Values of numbers below 100 stand. -/
theorem evsL {ρ ρ' : Env} (A : Agree (Below 100) ρ ρ') {l : List AV} (h : AV.lows 100 l = true) : AV.evs ρ' l = AV.evs ρ l := AV.evs_agree A l (AV.lows_in l h)
structure Room (K : Ctx) (w : World) : Prop where
  new : ∀ n, w.heap.size ≤ n → K.own n
  low : ∀ b n, K.still b n → b < w.heap.size
theorem Room.keep {K : Ctx} {w w' : World} (R : Room K w) (h : w.heap.size ≤ w'.heap.size) : Room K w' := ⟨fun n hn => R.new n (Nat.le_trans h hn), fun b n hs => Nat.lt_of_lt_of_le (R.low b n hs) h⟩

theorem wrapN {x : Int} (h : -9223372036854775808 ≤ x ∧ x ≤ 9223372036854775807) : IntKind.wrap .i64 x = x := IntWalk.i64_in _ h
/-- A piece that owns what is new alone. -/
theorem pieceN {K : Ctx} {main : Bool} (U : Outer K) {w : World} (R : Room K w) {bs : List (BE × Bool)} {is : List (IE × IE)} {mem : List (AA × AV)} {n nb lim : Nat} {ks : List Nat} {cur : AFrame} {callers : List AFrame} {live : List Nat} {V : Seen}
    (hv : see (chunkTo? Tryd.prog (OO bs is mem) (XX bs is mem) noSums 4000 n ks ⟨cur, callers, ⟨[], nb, lim⟩⟩) live = some V) (hl : cfgLow nb ⟨cur, callers, ⟨[], nb, lim⟩⟩ = true) (hO : (OO bs is mem).low nb = true) {ρ : Env} {fr : Frame} {frs cs : List Frame} (hf : FrRel Tryd.prog ρ cur fr) (hfs : FrRels Tryd.prog ρ callers frs)
    (hb : ∀ p ∈ bs, p.1.ev ρ = p.2) (hi : ∀ p ∈ is, p.1.ev ρ = p.2.ev ρ) (hm : ∀ p ∈ mem, w.cell? (p.1.ev ρ) = some (p.2.ev ρ)) :
    Walk Tryd.prog main (DK K) (fun g' w' => ∃ ρ' c' fr' frs', Came1 K (Below nb) ρ (fun n => w.heap.size ≤ n) (fun _ _ => False) (OO bs is mem) cs live V w g' w' ρ' c' fr' frs') 0 (G fr (frs ++ cs)) w := by
  obtain ⟨P, O, own, Ev, lock, still⟩ := K
  obtain ⟨hP, Gd, hrd⟩ := U
  dsimp only at hP
  subst hP
  exact piece_new (K := ⟨Tryd.prog, O, own, Ev, lock, still⟩) (O := OO bs is mem) Gd hrd R.new R.low ⟨fns_ok, ext_facts, mixed⟩ (fun G => ext_ok G (.inr tabC_quiet) tabC_facts) (fun _ => noSums_ok) hv hl hO hf hfs hb hi hm

/-- A piece that owns these blocks and what is new. -/
theorem pieceB {K : Ctx} {main : Bool} (U : Outer K) {w : World} (R : Room K w) {own : Nat → Prop} (still : Nat → Nat → Prop) (hown : ∀ n, own n → K.own n) (hnew : ∀ n, w.heap.size ≤ n → own n) {bs : List (BE × Bool)} {is : List (IE × IE)} {mem : List (AA × AV)} {n nb lim : Nat} {ks : List Nat} {cur : AFrame} {callers : List AFrame} {hp : List (Nat × ABlk)} {live : List Nat} {V : Seen}
    (hv : see (chunkTo? Tryd.prog (OO bs is mem) (XX bs is mem) noSums 4000 n ks ⟨cur, callers, ⟨hp, nb, lim⟩⟩) live = some V) (hl : cfgLow nb ⟨cur, callers, ⟨hp, nb, lim⟩⟩ = true) (hO : (OO bs is mem).low nb = true) {ρ : Env} {fr : Frame} {frs cs : List Frame} (hf : FrRel Tryd.prog ρ cur fr) (hfs : FrRels Tryd.prog ρ callers frs)
    (hb : ∀ p ∈ bs, p.1.ev ρ = p.2) (hi : ∀ p ∈ is, p.1.ev ρ = p.2.ev ρ) (hm : ∀ p ∈ mem, ¬ own (p.1.ev ρ).block ∧ w.cell? (p.1.ev ρ) = some (p.2.ev ρ))
    (h1 : ∀ p ∈ hp, ∃ o, w.heap[ρ.b p.1]? = some o ∧ p.2.is Tryd.prog ρ o) (h2 : ∀ p ∈ hp, own (ρ.b p.1)) (h3 : (hp.map fun p => ρ.b p.1).Nodup) (h4 : ∀ p ∈ hp, ∀ n, (K.still (ρ.b p.1) n ∨ still (ρ.b p.1) n) → p.2.lentAt Tryd.prog ρ n) (h5 : ∀ b n, still b n → b < w.heap.size) :
    Walk Tryd.prog main (DK K) (fun g' w' => ∃ ρ' c' fr' frs', Came1 K (Below nb) ρ own still (OO bs is mem) cs live V w g' w' ρ' c' fr' frs') 0 (G fr (frs ++ cs)) w := by
  obtain ⟨P, O, own', Ev, lock, still'⟩ := K
  obtain ⟨hP, Gd, hrd⟩ := U
  dsimp only at hP
  subst hP
  have Gd2 := sub_good (K := ⟨Tryd.prog, O, own', Ev, lock, still'⟩) (O := OO bs is mem) (own := own) (still := still) Gd hown
  exact piece (K := ⟨Tryd.prog, O, own', Ev, lock, still'⟩) (own := own) (still := still) (O := OO bs is mem) Gd hown ⟨fns_ok, ext_facts, mixed⟩ (ext_ok Gd2 (.inr tabC_quiet) tabC_facts) noSums_ok hv hl rfl hO hf hfs
    (rel_blocks h1 h2 h3 h4 ⟨hb, hi, fun p hp => ⟨(hm p hp).1, (hm p hp).2, fun s => ⟨hrd _ s, fun b n s e => by cases e⟩⟩⟩ hnew fun b n h => h.elim (R.low b n) (h5 b n))
theorem stillless {K : Ctx} {w : World} (R : Room K w) {b n : Nat} (h : w.heap.size ≤ b) : ¬ K.still b n := fun x => Nat.not_lt.2 h (R.low b n x)

/-- The frame at the end of such a piece, told anew; it alone above what lies below. -/
theorem toldN {K : Ctx} (U : Outer K) {V : Nat → Prop} {ρ ρ' : Env} {own : Nat → Prop} {still : Nat → Nat → Prop} {O : Orc} {cs : List Frame} {w : World} {g' : Goroutine} {w' : World} {c' : ACfg} {fr' : Frame} {frs' : List Frame} (lv : List (Nat × AV)) {fn : FuncId} {nt : Nat} {todo : List Item} {hp : List (Nat × ABlk)} {vals : List AV} (C : Came1 K V ρ own still O cs (lv.map (·.1)) ⟨fn, nt, todo, [], .run, .normal, [], hp, vals⟩ w g' w' ρ' c' fr' frs') :
    ∃ st, g' = G fr' cs ∧ ∀ ρ2 : Env, AV.evs ρ2 (lv.map (·.2)) = AV.evs ρ' vals → FrRel Tryd.prog ρ2 ⟨fn, nt, tmpsOf nt st lv, todo, [], .run, .normal⟩ fr' := by
  obtain ⟨st, h⟩ := C.told (.inl rfl)
  rw [U.prog] at h
  exact ⟨st, C.alone.1, h⟩

end Go.Proofs.YtcpiafgkmakdiaaDoor
